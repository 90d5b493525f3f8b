/-
  The evaluator's regions, code and calls are sound.
-/
import Derived.Test.YtkdhgablioljnaaAhXk
set_option linter.unusedSimpArgs false
set_option linter.unusedVariables false
set_option linter.unusedSectionVars false
namespace Go.AH
open Go

section
variable {P : Program} {ρ : Rn} {t : Fr} {h : XH} {H hf : AHeap} {res : AV × XH} {n N B : Nat} {call : XCall} {w : World} {a : Act} {ro : Option Nat}

def FrOk (n : Nat) (t : Fr) : Prop := t.wf 8 ∧ ∀ i, (t.getU i).bd n = true
theorem FrOk.mono {n n' : Nat} (hn : n ≤ n') (f : FrOk n t) : FrOk n' t := ⟨f.1, fun i => bd_mono hn _ (f.2 i)⟩
theorem FrOk.nil (n : Nat) : FrOk n .nil := ⟨Tr.nil_wf 8, fun i => by simp [Tr.getU, AV.bd]⟩

theorem xput_some {d : Option Nat} {v : AV} {K : Fr → R} (e : xput t d v n K = some res) : ∃ t', K t' = some res ∧ (FrOk n t → FrOk n t' ∧ ∀ ρ, renF ρ t'.at = (renF ρ t.at).putO d (ren ρ v)) := by
  cases d with
  | none => exact ⟨t, e, fun f => ⟨f, fun ρ => rfl⟩⟩
  | some d =>
    obtain ⟨e1, e2⟩ := chk_some e
    simp only [Bool.and_eq_true] at e1
    have hd : d < 256 := Nat.blt_eq.mp e1.1
    refine ⟨_, e2, fun f => ⟨⟨Tr.put_wf _ _ _ _ f.1, fun i => ?_⟩, fun ρ => ?_⟩⟩
    · rw [Tr.getU_put f.1 (by omega)]
      split
      · exact e1.2
      · exact f.2 i
    · rw [Tr.at_put f.1 (by omega)]
      funext i
      simp only [renF, AF.putO, AF.put]
      split <;> rfl

/-- What is asked of calls. -/
def CallOk (P : Program) (call : XCall) : Prop := ∀ (ρ : Rn) (h : XH) (H : AHeap) (fv : AV) (args : List AV) (K : KV) (res : AV × XH), call fv args h K = some res → HRep ρ h H →
  ACallV P (ren ρ fv) (args.map (ren ρ)) H (KP ρ h.n K res)

/-- Where a piece may lead. -/
def XTo (ρ : Rn) (h : XH) (w : World) (H hf : AHeap) (N B : Nat) (K : Fr → XH → R) (res : AV × XH) (a' : Act) (w' : World) : Prop :=
  ∃ ρ' t' h' H', Agr h.n ρ ρ' ∧ h.n ≤ h'.n ∧ HRep ρ' h' H' ∧ FrOk h'.n t' ∧ K t' h' = some res ∧ Good w' H' hf a' (renF ρ' t'.at) N B ∧ Stp w H hf w' H'

theorem xops_nil {tr : Bool} {K : Fr → XH → R} : xops P tr call [] t h K = K t h := rfl
theorem xops_cons {tr : Bool} {o : XO} {l : List XO} {K : Fr → XH → R} : xops P tr call (o :: l) t h K = (match o.g with
      | none => xk P tr call o.k t h fun r h' => xput t o.d r h'.n fun t' => xops P tr call l t' h' K
      | some (j, want) => match t.getU j with
        | .bool b => match b == want with
          | true => xk P tr call o.k t h fun r h' => xput t o.d r h'.n fun t' => xops P tr call l t' h' K
          | false => xput t o.d (.tup []) h.n fun t' => xops P tr call l t' h K
        | .tup [] => xput t o.d (.tup []) h.n fun t' => xops P tr call l t' h K
        | _ => none) := rfl

theorem mf_spec {op : Op} (h : mfOk op = true) : ∀ f first caps, op = .makeFunc f first caps → ∃ g, f = .func g := by
  rintro f first caps rfl
  cases f <;> first | exact ⟨_, rfl⟩ | cases h

/-- One operation, calls too, where the text's order is kept. -/
theorem xk_all (C : CallOk P call) {o : Oper} (R : HRep ρ h H) (hm : mfOk o.op = true) {K : KV} (e : xk P true call (XK.of P (flag [] o) o.op) t h K = some res) : ∃ H2, SubT H H2 ∧ opRes P o (renF ρ t.at) H2 (KP ρ h.n K res) := by
  have hfl : flag [] o = false := by unfold flag; cases o.dst <;> rfl
  rw [hfl] at e
  by_cases hcall : ∃ f args ats, o.op = .call { callee := .value f, args, argTypes := ats }
  · obtain ⟨f, args, ats, ho⟩ := hcall
    rw [ho] at e
    simp only [XK.of, xk, ev_of, evL_of] at e
    refine ⟨H, .refl _, ?_⟩
    unfold opRes
    rw [ho]
    show ACallV P (evalA (renF ρ t.at) f) (args.toList.map (evalA (renF ρ t.at))) H _
    rw [evalA_ren, evalL_ren]
    exact C _ _ _ _ _ _ _ e R
  · have hc : ∀ f args ats, o.op ≠ .call { callee := .value f, args, argTypes := ats } := fun f args ats q => hcall ⟨f, args, ats, q⟩
    by_cases hinv : ∃ r m args ats, o.op = .call { callee := .invoke r m, args, argTypes := ats }
    · obtain ⟨r, m, args, ats, ho⟩ := hinv
      rw [ho] at e
      simp only [XK.of, xk, ev_of, evL_of] at e
      refine ⟨H, .refl _, ?_⟩
      unfold opRes
      rw [ho]
      show invRes P (evalA (renF ρ t.at) r) m (args.toList.map (evalA (renF ρ t.at))) H _
      rw [evalA_ren, evalL_ren]
      split at e
      · next ty v hv =>
        split at e
        · next g hg =>
          have c := C _ _ _ _ _ _ _ e R
          rw [hv]
          simp only [ren, invRes, hg]
          simpa [ACallV, ren, renL] using c
        · cases e
      · cases e
    · have hi : ∀ r m args ats, o.op ≠ .call { callee := .invoke r m, args, argTypes := ats } := fun r m args ats q => hinv ⟨r, m, args, ats, q⟩
      obtain ⟨H2, s2, q⟩ := xk_trunc R hc hi (mf_spec hm) e
      refine ⟨H2, s2, ?_⟩
      unfold opRes
      split
      · next heq => exact absurd heq (hc _ _ _)
      · next heq => exact absurd heq (hi _ _ _ _)
      · exact q

theorem wanted_none {ops : Array Oper} {o : Oper} {f : AF} (hg : o.guard = none) : wantedA ops f o = some true := by unfold wantedA; rw [hg]

theorem xops_sound (C : CallOk P call) {ops : Array Oper} (hk : opsOk N ops = true) {Q : Exit → Act → World → Prop} {K : Fr → XH → R} : ∀ (os : List Oper) (l : List Nat) (xs : List XO) (ρ : Rn) (t : Fr) (h : XH) (H : AHeap) (a : Act) (w : World),
    l.map (ops[·]?) = os.map some → compL P [] ops os = some xs → Good w H hf a (renF ρ t.at) N B → HRep ρ h H → FrOk h.n t → xops P true call xs t h K = some res →
    (∀ a' w', XTo ρ h w H hf N B K res a' w' → Q .normal a' w') → wpOpsIn (fence ro) 0 P ops Q l a w
  | [], l, xs, ρ, t, h, H, a, w, hl, hx, G, R, F, e, hq => by
    have : l = [] := by simpa using hl
    subst this
    cases hx
    rw [xops_nil] at e
    exact hq _ _ ⟨ρ, t, h, H, .refl _ _, Nat.le_refl _, R, F, e, G, .refl _ _ _⟩
  | o :: os, l, xs, ρ, t, h, H, a, w, hl, hx, G, R, F, e, hq => by
    cases l with
    | nil => simp at hl
    | cons i l =>
      simp only [List.map_cons, List.cons.injEq] at hl
      obtain ⟨hi, hl⟩ := hl
      obtain ⟨hd, hdef, _⟩ := opsOk_spec hk hi
      simp only [compL] at hx
      split at hx
      · next x xs' hm hxo hxs =>
        cases hx
        rw [wpOpsIn_cons]
        unfold wpOpIn
        rw [hi]
        have tran : ∀ {ρ' : Rn} {h' : XH} {H' : AHeap} {w' : World}, Agr h.n ρ ρ' → h.n ≤ h'.n → Stp w H hf w' H' → ∀ a2 w2, XTo ρ' h' w' H' hf N B K res a2 w2 → Q .normal a2 w2 := by
          rintro ρ' h' H' w' ag hn st a2 w2 ⟨ρ2, t2, h2, H2, ag2, hn2, R2, F2, e2, G2, st2⟩
          exact hq _ _ ⟨ρ2, t2, h2, H2, ag.trans ag2 hn, Nat.le_trans hn hn2, R2, F2, e2, G2, st.trans st2⟩
        have step : wantedA ops (renF ρ t.at) o = some true → (xk P true call (XK.of P (flag [] o) o.op) t h fun r h' => xput t o.dst r h'.n fun t' => xops P true call xs' t' h' K) = some res →
            (if Region.wanted o (yielded ops a.tmps) = true then o.wpIn (fence ro) 0 P a w (wpOpsIn (fence ro) 0 P ops Q l) Q else (∀ f, o.about P w a.eval = some f → (fence ro).fn f) ∧ wpOpsIn (fence ro) 0 P ops Q l (a.put o.dst undef) w) := by
          intro hw e
          obtain ⟨H2, s2, q⟩ := xk_all C R hm e
          have q' : opStep P o (fun t'' H'' => ∃ ρ' t' h', t'' = renF ρ' t'.at ∧ Agr h.n ρ ρ' ∧ h.n ≤ h'.n ∧ HRep ρ' h' H'' ∧ FrOk h'.n t' ∧ xops P true call xs' t' h' K = some res) (renF ρ t.at) H2 := by
            refine opRes_mono q ?_
            rintro r' H' ⟨ρ', r, h', ag, hn, R', rfl, eK⟩
            obtain ⟨t', e', hF⟩ := xput_some eK
            obtain ⟨F', hr⟩ := hF (F.mono hn)
            exact ⟨ρ', t', h', by rw [hr ρ', ← renF_agr (t := t.at) ag F.2], ag, hn, R', F', e'⟩
          simp only [wanted_of G (guard_spec hk) hw, if_true]
          refine Oper.wpIn_mono ?_ (opStep_sound (s2.good G) hd hdef q' Q)
          rintro a' w' ⟨t'', H'', ⟨ρ', t', h', rfl, ag, hn, R', F', e'⟩, G', x⟩
          exact xops_sound C hk os l xs' ρ' t' h' H'' a' w' hl hxs G' R' F' e' (tran ag hn (s2.stp.trans x))
        have skip : wantedA ops (renF ρ t.at) o = some false → (xput t o.dst (.tup []) h.n fun t' => xops P true call xs' t' h K) = some res →
            (if Region.wanted o (yielded ops a.tmps) = true then o.wpIn (fence ro) 0 P a w (wpOpsIn (fence ro) 0 P ops Q l) Q else (∀ f, o.about P w a.eval = some f → (fence ro).fn f) ∧ wpOpsIn (fence ro) 0 P ops Q l (a.put o.dst undef) w) := by
          intro hw e
          obtain ⟨t', e', hF⟩ := xput_some e
          obtain ⟨F', hr⟩ := hF F
          simp only [wanted_of G (guard_spec hk) hw, Bool.false_eq_true, if_false]
          refine ⟨fun _ _ => trivial, ?_⟩
          have G' : Good w H hf (a.put o.dst undef) (renF ρ t'.at) N B := by
            have := G.skip hd
            rw [hr ρ]
            simpa [ren] using this
          exact xops_sound C hk os l xs' ρ t' h H _ w hl hxs G' R F' e' (tran (.refl _ _) (Nat.le_refl _) (.refl _ _ _))
        unfold XO.of at hxo
        split at hxo
        · next hg =>
          cases hxo
          exact step (wanted_none hg) e
        · next j want hg =>
          split at hxo
          · next d hd2 =>
            cases hxo
            rw [xops_cons] at e
            have wa : ∀ v, ren ρ (t.getU d) = v → wantedA ops (renF ρ t.at) o = (match v with | .bool b => some (b == want) | .tup [] => some false | _ => none) := by
              intro v hv
              unfold wantedA
              rw [hg]
              simp only [hd2]
              show (match ren ρ (t.getU d) with | .bool b => some (b == want) | .tup [] => some false | _ => none) = _
              rw [hv]
            simp only at e
            split at e
            · next b hb =>
              have := wa (.bool b) (by rw [hb]; rfl)
              split at e
              · next hw => exact step (by rw [this]; simp [hw]) e
              · next hw => exact skip (by rw [this]; simp [hw]) e
            · next hb => exact skip (wa (.tup []) (by rw [hb]; simp [ren])) e
            · cases e
          · cases hxo
      · cases hx

/-- One operation, calls too, where no tail is forgotten. -/
theorem xk_exact (C : CallOk P call) {o : Oper} (R : HRep ρ h H) (hm : mfOk o.op = true) {K : KV} (e : xk P false call (XK.of P (flag [] o) o.op) t h K = some res) : opRes P o (renF ρ t.at) H (KP ρ h.n K res) := by
  have hfl : flag [] o = false := by unfold flag; cases o.dst <;> rfl
  rw [hfl] at e
  by_cases hcall : ∃ f args ats, o.op = .call { callee := .value f, args, argTypes := ats }
  · obtain ⟨f, args, ats, ho⟩ := hcall
    rw [ho] at e
    simp only [XK.of, xk, ev_of, evL_of] at e
    unfold opRes
    rw [ho]
    show ACallV P (evalA (renF ρ t.at) f) (args.toList.map (evalA (renF ρ t.at))) H _
    rw [evalA_ren, evalL_ren]
    exact C _ _ _ _ _ _ _ e R
  · have hc : ∀ f args ats, o.op ≠ .call { callee := .value f, args, argTypes := ats } := fun f args ats q => hcall ⟨f, args, ats, q⟩
    by_cases hinv : ∃ r m args ats, o.op = .call { callee := .invoke r m, args, argTypes := ats }
    · obtain ⟨r, m, args, ats, ho⟩ := hinv
      rw [ho] at e
      simp only [XK.of, xk, ev_of, evL_of] at e
      unfold opRes
      rw [ho]
      show invRes P (evalA (renF ρ t.at) r) m (args.toList.map (evalA (renF ρ t.at))) H _
      rw [evalA_ren, evalL_ren]
      split at e
      · next ty v hv =>
        split at e
        · next g hg =>
          have c := C _ _ _ _ _ _ _ e R
          rw [hv]
          simp only [ren, invRes, hg]
          simpa [ACallV, ren, renL] using c
        · cases e
      · cases e
    · have hi : ∀ r m args ats, o.op ≠ .call { callee := .invoke r m, args, argTypes := ats } := fun r m args ats q => hinv ⟨r, m, args, ats, q⟩
      have q := xk_sound R hc hi (mf_spec hm) e
      unfold opRes
      split
      · next heq => exact absurd heq (hc _ _ _)
      · next heq => exact absurd heq (hi _ _ _ _)
      · exact q

/-- Operations in an order, told of the layer. -/
theorem xops_awp (C : CallOk P call) {ops : Array Oper} {K : Fr → XH → R} {res : AV × XH} : ∀ (os : List Oper) (xs : List XO) (ρ : Rn) (t : Fr) (h : XH) (H : AHeap),
    compL P [] ops os = some xs → HRep ρ h H → FrOk h.n t → xops P false call xs t h K = some res →
    awpOps P ops (fun t2 H2 => ∃ ρ' t' h', t2 = renF ρ' t'.at ∧ Agr h.n ρ ρ' ∧ h.n ≤ h'.n ∧ HRep ρ' h' H2 ∧ FrOk h'.n t' ∧ K t' h' = some res) os (renF ρ t.at) H
  | [], xs, ρ, t, h, H, hx, R, F, e => by
    cases hx
    rw [xops_nil] at e
    exact ⟨ρ, t, h, rfl, .refl _ _, Nat.le_refl _, R, F, e⟩
  | o :: os, xs, ρ, t, h, H, hx, R, F, e => by
    simp only [compL] at hx
    split at hx
    · next x xs' hm hxo hxs =>
      cases hx
      have step : wantedA ops (renF ρ t.at) o = some true → (xk P false call (XK.of P (flag [] o) o.op) t h fun r h' => xput t o.dst r h'.n fun t' => xops P false call xs' t' h' K) = some res →
          awpOps P ops (fun t2 H2 => ∃ ρ' t' h', t2 = renF ρ' t'.at ∧ Agr h.n ρ ρ' ∧ h.n ≤ h'.n ∧ HRep ρ' h' H2 ∧ FrOk h'.n t' ∧ K t' h' = some res) (o :: os) (renF ρ t.at) H := by
        intro hw e
        simp only [awpOps, hw]
        show opRes P o _ _ _
        refine opRes_mono (xk_exact C R hm e) ?_
        rintro r' H' ⟨ρ', r, h', ag, hn, R', rfl, eK⟩
        obtain ⟨t', e', hF⟩ := xput_some eK
        obtain ⟨F', hr⟩ := hF (F.mono hn)
        have q := xops_awp C os xs' ρ' t' h' H' hxs R' F' e'
        rw [renF_agr (t := t.at) ag F.2, ← hr ρ']
        refine awpOps_mono (fun t2 H2 => ?_) os _ _ q
        rintro ⟨ρ2, t3, h2, e1, ag2, hn2, R2, F2, e2⟩
        exact ⟨ρ2, t3, h2, e1, ag.trans ag2 hn, Nat.le_trans hn hn2, R2, F2, e2⟩
      have skip : wantedA ops (renF ρ t.at) o = some false → (xput t o.dst (.tup []) h.n fun t' => xops P false call xs' t' h K) = some res →
          awpOps P ops (fun t2 H2 => ∃ ρ' t' h', t2 = renF ρ' t'.at ∧ Agr h.n ρ ρ' ∧ h.n ≤ h'.n ∧ HRep ρ' h' H2 ∧ FrOk h'.n t' ∧ K t' h' = some res) (o :: os) (renF ρ t.at) H := by
        intro hw e
        obtain ⟨t', e', hF⟩ := xput_some e
        obtain ⟨F', hr⟩ := hF F
        simp only [awpOps, hw]
        have q := xops_awp C os xs' ρ t' h H hxs R F' e'
        rw [hr ρ] at q
        simpa [ren] using q
      unfold XO.of at hxo
      split at hxo
      · next hg =>
        cases hxo
        exact step (wanted_none hg) e
      · next j want hg =>
        split at hxo
        · next d hd2 =>
          cases hxo
          rw [xops_cons] at e
          have wa : ∀ v, ren ρ (t.getU d) = v → wantedA ops (renF ρ t.at) o = (match v with | .bool b => some (b == want) | .tup [] => some false | _ => none) := by
            intro v hv
            unfold wantedA
            rw [hg]
            simp only [hd2]
            show (match ren ρ (t.getU d) with | .bool b => some (b == want) | .tup [] => some false | _ => none) = _
            rw [hv]
          simp only at e
          split at e
          · next b hb =>
            have := wa (.bool b) (by rw [hb]; rfl)
            split at e
            · next hw => exact step (by rw [this]; simp [hw]) e
            · next hw => exact skip (by rw [this]; simp [hw]) e
          · next hb => exact skip (wa (.tup []) (by rw [hb]; simp [ren])) e
          · cases e
        · cases hxo
    · cases hx
end
end Go.AH
