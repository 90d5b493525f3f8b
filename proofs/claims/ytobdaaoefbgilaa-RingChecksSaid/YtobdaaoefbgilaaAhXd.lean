/-
  Regions that draw: the evaluator is sound.
-/
import Derived.Test.YtobdaaoefbgilaaAhXp
set_option linter.unusedSimpArgs false
set_option linter.unusedVariables false
set_option linter.unusedSectionVars false
namespace Go.AH
open Go

section
variable {P : Program} {ρ0 ρ : Rn} {h0 h : XH} {G0 H1 H : AHeap} {t : Fr} {res : AV × XH} {call : XCall} {fl ms : List Nat} {ops : Array Oper} {A : Ann}

theorem live_iff {b : Nat} : h.live b = true ↔ h.get b ≠ .gone := by
  unfold XH.live
  cases h.get b <;> simp

theorem sep_ne (R0 : HRep ρ0 h0 G0) (R : HRep ρ h H1) (ag : Agr h0.n ρ0 ρ) {a c : Nat} (e : sep h0 h a c = true) : ρ.b a ≠ ρ.b c := by
  intro q
  unfold sep at e
  simp only [Bool.and_eq_true, Bool.or_eq_true, live_iff, Bool.not_eq_true'] at e
  obtain ⟨hne, e⟩ := e
  have hne : a ≠ c := fun q => by subst q; simp at hne
  rcases e with ⟨e1, e2⟩ | ⟨e1, e2⟩
  · have h1 := XH.get_lt e1
    have h2 := XH.get_lt e2
    rw [← (ag a h1).1, ← (ag c h2).1] at q
    exact hne (R0.inj _ _ e1 e2 q)
  · exact hne (R.inj _ _ e1 e2 q)

theorem plan_step {K : KV} {op : Op} (R : HRep ρ h H1) (pt : Part H1 H) (hc : ∀ f args ats, op ≠ .call { callee := .value f, args, argTypes := ats }) (hf : ∀ f first caps, op = .makeFunc f first caps → ∃ g, f = .func g)
    (e : xk P false call (XK.of P false op) t h K = some res) : ∃ p, planA P (renF ρ t.at) H op = some p ∧
      p.runK H fun v H' => (∃ ρ' r h' H1', Agr h.n ρ ρ' ∧ h.n ≤ h'.n ∧ HRep ρ' h' H1' ∧ Part H1' H' ∧ v = ren ρ' r ∧ K r h' = some res) ∧ (wrB p = [] → ∀ G, Part G H → Part G H') := by
  have q := plan_iff.2 (xk_sound R hc hf e)
  rw [onSome_iff] at q
  obtain ⟨p, hp, hr⟩ := q
  have pres := plan_pres hp
  have hpH : planA P (renF ρ t.at) H op = some p := by rw [← hp]; exact plan_cong fun b hb => pt b (pres b hb)
  refine ⟨p, hpH, (runK_iff (plan_shape hp)).2 fun v δ oδ => ?_⟩
  have up : ∀ {X Y : AHeap} {b : Nat} {c : Chunk}, (∀ b', b' ≠ b → X b' ≠ none → Y b' = X b') → Part (X.upd b c) (Y.upd b c) := by
    intro X Y b c hx b' hb'
    by_cases q : b' = b
    · subst q; rw [AHeap.upd_same, AHeap.upd_same]
    · rw [AHeap.upd_ne q] at hb' ⊢
      rw [AHeap.upd_ne q]
      exact hx b' q hb'
  have fr : ∀ {b : Nat}, H b = none → H1 b = none := fun {b} hb => by
    by_cases q : H1 b = none
    · exact q
    · rw [← pt b q]; exact hb
  have kp : ∀ {v : AV} {X Y : AHeap}, KP ρ h.n K res v X → Part X Y → ∃ ρ' r h' H1', Agr h.n ρ ρ' ∧ h.n ≤ h'.n ∧ HRep ρ' h' H1' ∧ Part H1' Y ∧ v = ren ρ' r ∧ K r h' = some res := by
    rintro v X Y ⟨ρ', r, h', ag, hn, R', hv, eK⟩ hp
    exact ⟨ρ', r, h', X, ag, hn, R', hp, hv, eK⟩
  unfold Plan.run Plan.heap at hr
  cases oδ with
  | ret h1 h2 =>
    rw [h1, h2] at hr
    change KP ρ h.n K res (p.v 0) H1 at hr
    exact ⟨kp hr pt, fun _ G hG => hG⟩
  | new c b h1 h2 hb =>
    rw [h1, h2] at hr
    change ∀ b', H1 b' = none → KP ρ h.n K res (p.v b') (H1.upd b' c) at hr
    refine ⟨kp (hr b (fr hb)) (up fun b' _ hb' => pt b' hb'), fun _ G hG b' hb' => ?_⟩
    have : b' ≠ b := fun q => by subst q; rw [← hG _ hb'] at hb'; exact hb' hb
    show (H.upd b c) b' = _
    rw [AHeap.upd_ne this]
    exact hG b' hb'
  | put b c h1 h2 =>
    rw [h1, h2] at hr
    change KP ρ h.n K res (p.v 0) (H1.upd b c) at hr
    exact ⟨kp hr (up fun b' _ hb' => pt b' hb'), fun q => by simp [wrB, h1] at q⟩
  | inpl b c h1 h2 =>
    rw [h1, h2] at hr
    change ∀ b', (H1.del b) b' = none → KP ρ h.n K res (p.v b') ((H1.del b).upd b' c) at hr
    refine ⟨kp (hr b AHeap.del_same) (up fun b' hne hb' => ?_), fun q => by simp [wrB, h1] at q⟩
    rw [AHeap.del_ne hne] at hb' ⊢
    exact pt b' hb'
  | move b c b' h1 h2 hb' =>
    rw [h1, h2] at hr
    change ∀ b', (H1.del b) b' = none → KP ρ h.n K res (p.v b') ((H1.del b).upd b' c) at hr
    refine ⟨kp (hr b' ?_) (up fun x hne hx => ?_), fun q => by simp [wrB, h1] at q⟩
    · by_cases q : b' = b
      · rw [q]; exact AHeap.del_same
      · rw [AHeap.del_ne q]; exact fr hb'
    · by_cases q : x = b
      · rw [q, AHeap.del_same] at hx; exact absurd rfl hx
      · rw [AHeap.del_ne q] at hx ⊢
        exact pt x hx

/-! ### The log by names, and the log by blocks -/
def LogRel (ρ : Rn) (G0 : AHeap) (n : Nat) (xl : List XE) (log : List Ent) : Prop := ∀ e ∈ log, e.still ∨ ∃ x ∈ xl, x.i = e.i ∧ (∀ b, e.acc b → (x.base = true ∧ G0 b ≠ none) ∨ ∃ a ∈ x.tch, a < n ∧ ρ.b a = b) ∧ (∀ b ∈ e.wr, ∃ a ∈ x.wr, a < n ∧ ρ.b a = b)
theorem LogRel.mono {ρ' : Rn} {n n' : Nat} {xl : List XE} {log : List Ent} (r : LogRel ρ G0 n xl log) (ag : Agr n ρ ρ') (hn : n ≤ n') : LogRel ρ' G0 n' xl log := by
  intro e he
  rcases r e he with q | ⟨x, hx, h1, h2, h3⟩
  · exact .inl q
  · refine .inr ⟨x, hx, h1, fun b hb => ?_, fun b hb => ?_⟩
    · rcases h2 b hb with q | ⟨a, ha, hl, q⟩
      · exact .inl q
      · exact .inr ⟨a, ha, by omega, by rw [← (ag a hl).1]; exact q⟩
    · obtain ⟨a, ha, hl, q⟩ := h3 b hb
      exact ⟨a, ha, by omega, by rw [← (ag a hl).1]; exact q⟩

structure St (ρ0 : Rn) (h0 : XH) (G0 : AHeap) (t : Fr) (h : XH) (xl : List XE) (pb : Bool) (ρ : Rn) (H1 H : AHeap) (log : List Ent) : Prop where
  ag : Agr h0.n ρ0 ρ
  nn : h0.n ≤ h.n
  R : HRep ρ h H1
  pt : Part H1 H
  F : FrOk h.n t
  lg : LogRel ρ G0 h.n xl log
  pb : pb = true → (∀ e ∈ log, e.wr = []) ∧ Part G0 H

def Kb (ρ0 : Rn) (h0 : XH) (K : Fr → XH → R) (res : AV × XH) (t' : AF) (H' : AHeap) : Prop := ∃ ρ t h H1, Agr h0.n ρ0 ρ ∧ h0.n ≤ h.n ∧ HRep ρ h H1 ∧ Part H1 H' ∧ FrOk h.n t ∧ K t h = some res ∧ t' = renF ρ t.at

theorem xdops_cons {o : XD} {l : List XD} {xl : List XE} {pb : Bool} {K : Fr → XH → R} : xdops P call h0 (o :: l) t h xl pb K = (match o.x.g with
      | none => xd1 P call h0 o t h xl pb fun t' h' log' pb' => xdops P call h0 l t' h' log' pb' K
      | some (j, want) => match t.getU j with
        | .bool b => match b == want with
          | true => xd1 P call h0 o t h xl pb fun t' h' log' pb' => xdops P call h0 l t' h' log' pb' K
          | false => match Nat.beq o.kind 2 with
            | true => none
            | false => xput t o.x.d (.tup []) h.n fun t' => xdops P call h0 l t' h xl pb K
        | .tup [] => match Nat.beq o.kind 2 with
          | true => none
          | false => xput t o.x.d (.tup []) h.n fun t' => xdops P call h0 l t' h xl pb K
        | _ => none) := rfl

theorem wrB_ret' {v : AV} : wrB (.ret v) = [] := rfl

theorem xd_sound (C : CallOk P call) (R0 : HRep ρ0 h0 G0) (hms : MasksOk ops ms) {K : Fr → XH → R} : ∀ (L : List Nat) (l : List XD), compDL P fl ops ms L = some l → (slotsOf fl ops L).Nodup → ∀ (t : Fr) (h : XH) (xl : List XE) (pb : Bool), xdops P call h0 l t h xl pb K = some res →
    ∃ A', TellOk P G0 A' ∧ (∀ d, d ∉ slotsOf fl ops L → A' d = none) ∧ ∀ A : Ann, (∀ d ∈ slotsOf fl ops L, A d = A' d) → ∀ ρ H1 H log, St ρ0 h0 G0 t h xl pb ρ H1 H log → runL P G0 A fl ops (Kb ρ0 h0 K res) L log (renF ρ t.at) H
  | [], l, hl, _, t, h, xl, pb, e => by
    cases hl
    refine ⟨fun _ => none, (fun d q hq => by cases hq), fun _ _ => rfl, fun A _ ρ H1 H log S => ?_⟩
    exact ⟨ρ, t, h, H1, S.ag, S.nn, S.R, S.pt, S.F, e, rfl⟩
  | i :: L, l, hl, hnd, t, h, xl, pb, e => by
    simp only [compDL] at hl
    split at hl
    · next o xs hi hxs =>
      split at hl
      · next x hx =>
        cases hl
        unfold XD.of at hx
        split at hx
        · next xo hok hxo =>
          simp only [Option.some.injEq] at hx
          subst hx
          simp only [Bool.and_eq_true, Bool.or_eq_true, Bool.not_eq_true'] at hok
          obtain ⟨hmf, hfc⟩ := hok
          have hsl : slotsOf fl ops (i :: L) = (match flag fl o with | true => o.dst.toList | false => []) ++ slotsOf fl ops L := by
            unfold slotsOf
            rw [List.filterMap_cons, hi]
            simp only
            cases flag fl o
            · rfl
            · simp only
              cases o.dst <;> rfl
          have hndL : (slotsOf fl ops L).Nodup := by
            rw [hsl] at hnd; exact (List.nodup_append.1 hnd).2.1
          have IH := fun t h xl pb e => xd_sound C R0 hms (K := K) L xs hxs hndL t h xl pb e
          have hk2 : Nat.beq (kindOf fl o) 2 = false → ¬ hvy fl o = true := by
            unfold kindOf hvy
            cases isCallV o.op <;> cases flag fl o <;> simp
          -- not wanted
          have skip : (∀ ρ, wantedA ops (renF ρ t.at) o = some false) → Nat.beq (kindOf fl o) 2 = false → (xput t o.dst (.tup []) h.n fun t' => xdops P call h0 xs t' h xl pb K) = some res →
              ∃ A', TellOk P G0 A' ∧ (∀ d, d ∉ slotsOf fl ops (i :: L) → A' d = none) ∧ ∀ A : Ann, (∀ d ∈ slotsOf fl ops (i :: L), A d = A' d) → ∀ ρ H1 H log, St ρ0 h0 G0 t h xl pb ρ H1 H log → runL P G0 A fl ops (Kb ρ0 h0 K res) (i :: L) log (renF ρ t.at) H := by
            intro hw hk e
            obtain ⟨t', e', hF⟩ := xput_some e
            obtain ⟨A', hT, hA, hrun⟩ := IH t' h xl pb e'
            refine ⟨A', hT, fun d hd => hA d fun q => hd (by rw [hsl]; exact List.mem_append_right _ q), fun A hAA ρ H1 H log S => ⟨o, hi, ?_⟩⟩
            obtain ⟨F', hr⟩ := hF S.F
            rw [if_neg (hk2 hk)]
            have hacc : ∀ b, ¬ accD P G0 fl ops o (renF ρ t.at) b := fun b hb => by have := hb.1; rw [hw] at this; cases this
            refine ⟨.ret (.tup []), by unfold planD; rw [hw], fun x _ => .inr ⟨(fun b hb => by cases hb), fun b _ => hacc b⟩, ?_⟩
            show runL P G0 A fl ops (Kb ρ0 h0 K res) L (⟨i, accD P G0 fl ops o (renF ρ t.at), [], false⟩ :: log) ((renF ρ t.at).putO o.dst (.tup [])) H
            have hfr : (renF ρ t.at).putO o.dst (.tup []) = renF ρ t'.at := by rw [hr ρ]; simp [ren]
            rw [hfr]
            refine hrun A (fun d hd => hAA d (by rw [hsl]; exact List.mem_append_right _ hd)) ρ H1 H _ ⟨S.ag, S.nn, S.R, S.pt, F', fun x hx => ?_, fun hp => ⟨fun x hx => ?_, (S.pb hp).2⟩⟩
            · rcases List.mem_cons.1 hx with rfl | hx
              · exact .inl ⟨hacc, rfl, rfl⟩
              · exact S.lg x hx
            · rcases List.mem_cons.1 hx with rfl | hx
              · rfl
              · exact (S.pb hp).1 x hx
          -- wanted
          have go : (∀ ρ, wantedA ops (renF ρ t.at) o = some true) → xo.d = o.dst → xo.k = XK.of P (flag [] o) o.op →
              (xd1 P call h0 ⟨xo, i, ms.getD i 0, kindOf fl o, (accOf P o.op).map .of, (wrOf o.op).map .of, frOf o.op⟩ t h xl pb fun t' h' log' pb' => xdops P call h0 xs t' h' log' pb' K) = some res →
              ∃ A', TellOk P G0 A' ∧ (∀ d, d ∉ slotsOf fl ops (i :: L) → A' d = none) ∧ ∀ A : Ann, (∀ d ∈ slotsOf fl ops (i :: L), A d = A' d) → ∀ ρ H1 H log, St ρ0 h0 G0 t h xl pb ρ H1 H log → runL P G0 A fl ops (Kb ρ0 h0 K res) (i :: L) log (renF ρ t.at) H := by
            intro hw hd hk e
            have hfl0 : flag [] o = false := by unfold flag; cases o.dst <;> rfl
            rw [hfl0] at hk
            unfold xd1 at e
            simp only at e
            rw [hd, hk] at e
            cases hcv : isCallV o.op with
            | false =>
              have hfl : flag fl o = false := by rcases hfc with q | q; · rw [hcv] at q; cases q
                                                 · exact q
              have hkd : kindOf fl o = 0 := by unfold kindOf; rw [hcv]
              rw [hkd] at e
              simp only at e
              obtain ⟨e1, e2⟩ := chk_some e
              simp only [Bool.and_eq_true] at e1
              obtain ⟨⟨eT, eW⟩, eC⟩ := e1
              split at e2
              · next r h' hxk =>
                obtain ⟨t', e', hF⟩ := xput_some e2
                obtain ⟨A', hT, hA, hrun⟩ := IH t' h' _ _ e'
                refine ⟨A', hT, fun d hd => hA d fun q => hd (by rw [hsl]; exact List.mem_append_right _ q), fun A hAA ρ H1 H log S => ⟨o, hi, ?_⟩⟩
                have hv : ¬ hvy fl o = true := by unfold hvy; rw [hcv]; simp
                rw [if_neg hv]
                have hnc : ∀ f args ats, o.op ≠ .call { callee := .value f, args, argTypes := ats } := fun f args ats q => by rw [q] at hcv; cases hcv
                obtain ⟨p, hp, hrunK⟩ := plan_step S.R S.pt hnc (mf_spec hmf) hxk
                have hacc : ∀ b, accD P G0 fl ops o (renF ρ t.at) b → ∃ a ∈ namesOf ((accOf P o.op).map .of) t, ρ.b a = b := fun b hb => by
                  have := hb.2
                  rw [hfl] at this
                  simp only [Bool.false_eq_true, if_false] at this
                  exact acc_names this
                have hwr := wr_names hp
                have lt : ∀ a ∈ namesOf ((accOf P o.op).map .of) t, a < h.n := fun a ha => XH.get_lt (live_iff.1 (List.all_eq_true.1 eT a ha))
                have ltW : ∀ a ∈ namesOf ((wrOf o.op).map .of) t, a < h.n := fun a ha => XH.get_lt (live_iff.1 (List.all_eq_true.1 eW a ha))
                refine ⟨p, by unfold planD; rw [hw ρ, hfl]; exact hp, fun x hx => ?_, ?_⟩
                · rcases S.lg x hx with q | ⟨y, hy, y1, y2, y3⟩
                  · exact .inr ⟨fun b _ => q.1 b, by rw [q.2.1]; simp⟩
                  · have hc := List.all_eq_true.1 eC y hy
                    unfold xclr at hc
                    simp only [Bool.or_eq_true, Bool.and_eq_true] at hc
                    rcases hc with hc | ⟨hc1, hc2⟩
                    · exact .inl (by rw [← y1]; exact hms.anc hc)
                    · refine .inr ⟨fun b hb hb2 => ?_, fun b hb hb2 => ?_⟩
                      · obtain ⟨a, ha, rfl⟩ := hwr b hb
                        rcases y2 _ hb2 with ⟨z1, z2⟩ | ⟨c, hcx, _, z2⟩
                        · rw [z1] at hc1
                          simp only [List.isEmpty_iff] at hc1
                          rw [hc1] at ha; cases ha
                        · cases hyb : y.base with
                          | true => rw [hyb] at hc1; simp only [List.isEmpty_iff] at hc1; rw [hc1] at ha; cases ha
                          | false =>
                            rw [hyb] at hc1
                            exact sep_ne R0 S.R S.ag (List.all_eq_true.1 (List.all_eq_true.1 hc1 a ha) c hcx) z2.symm
                      · obtain ⟨a, ha, _, rfl⟩ := y3 b hb
                        obtain ⟨c, hcx, z⟩ := hacc _ hb2
                        exact sep_ne R0 S.R S.ag (List.all_eq_true.1 (List.all_eq_true.1 hc2 a ha) c hcx) z.symm
                · refine runK_mono hrunK ?_
                  rintro v H' ⟨⟨ρ', r', h2, H1', ag, hn, R', pt', rfl, eK⟩, keep⟩
                  cases eK
                  obtain ⟨F', hr⟩ := hF (S.F.mono hn)
                  have hfr : (renF ρ t.at).putO o.dst (ren ρ' r) = renF ρ' t'.at := by rw [hr ρ', ← renF_agr (t := t.at) ag S.F.2]
                  rw [hfr]
                  have hwn : namesOf ((wrOf o.op).map .of) t = [] → wrB p = [] := fun q => by
                    cases hq : wrB p with
                    | nil => rfl
                    | cons b l => obtain ⟨a, ha, _⟩ := hwr b (by rw [hq]; simp); rw [q] at ha; cases ha
                  have ent : (namesOf ((accOf P o.op).map .of) t).isEmpty && (namesOf ((wrOf o.op).map .of) t).isEmpty && !frOf o.op → (⟨i, accD P G0 fl ops o (renF ρ t.at), wrB p, p.fr.isSome⟩ : Ent).still := by
                    intro q
                    simp only [Bool.and_eq_true, List.isEmpty_iff, Bool.not_eq_true'] at q
                    obtain ⟨⟨q1, q2⟩, q3⟩ := q
                    refine ⟨fun b hb => ?_, hwn q2, ?_⟩
                    · obtain ⟨a, ha, _⟩ := hacc b hb
                      rw [q1] at ha; cases ha
                    · cases hfr : p.fr with
                      | none => rfl
                      | some c => have := (plan_wr hp).2 (by rw [hfr]; simp); rw [q3] at this; cases this
                  refine hrun A (fun d hd => hAA d (by rw [hsl]; exact List.mem_append_right _ hd)) ρ' H1' H' _ ⟨S.ag.trans ag S.nn, Nat.le_trans S.nn hn, R', pt', F', fun x hx => ?_, fun hp2 => ?_⟩
                  · have old := S.lg.mono ag hn
                    rcases List.mem_cons.1 hx with rfl | hx
                    · unfold addE
                      split
                      · next q => exact .inl (ent q)
                      · refine .inr ⟨_, List.mem_cons_self, rfl, fun b hb => ?_, fun b hb => ?_⟩
                        · obtain ⟨a, ha, q⟩ := hacc b hb
                          exact .inr ⟨a, ha, Nat.lt_of_lt_of_le (lt a ha) hn, by rw [← (ag a (lt a ha)).1]; exact q⟩
                        · obtain ⟨a, ha, q⟩ := hwr b hb
                          exact ⟨a, ha, Nat.lt_of_lt_of_le (ltW a ha) hn, by rw [← (ag a (ltW a ha)).1]; exact q⟩
                    · rcases old x hx with q | ⟨y, hy, q⟩
                      · exact .inl q
                      · refine .inr ⟨y, ?_, q⟩
                        unfold addE
                        split
                        · exact hy
                        · exact List.mem_cons_of_mem _ hy
                  · simp only [Bool.and_eq_true, List.isEmpty_iff] at hp2
                    have hw0 := hwn hp2.2
                    refine ⟨fun x hx => ?_, keep hw0 _ (S.pb hp2.1).2⟩
                    rcases List.mem_cons.1 hx with rfl | hx
                    · exact hw0
                    · exact (S.pb hp2.1).1 x hx
              · cases e2
            | true =>
              have hop : ∃ f args ats, o.op = .call { callee := .value f, args, argTypes := ats } := by
                cases ho : o.op <;> rw [ho] at hcv <;> try cases hcv
                rename_i c
                obtain ⟨callee, args, ats⟩ := c
                cases callee <;> first | exact ⟨_, _, _, rfl⟩ | cases hcv
              obtain ⟨f, args, ats, ho⟩ := hop
              cases hfl : flag fl o with
              | true =>
                have hkd : kindOf fl o = 1 := by unfold kindOf; rw [hcv, hfl]
                rw [hkd, ho] at e
                simp only [XK.of] at e
                split at e
                · next g first caps hfv =>
                  obtain ⟨e1, e2⟩ := chk_some e
                  simp only [Bool.and_eq_true] at e1
                  obtain ⟨⟨⟨hpb, b1⟩, b2⟩, b3⟩ := e1
                  split at e2
                  · next r h' hcall =>
                    obtain ⟨b4, e3⟩ := chk_some e2
                    obtain ⟨t', e', hF⟩ := xput_some e3
                    obtain ⟨A', hT, hA, hrun⟩ := IH t' h _ _ e'
                    obtain ⟨d, hdd⟩ : ∃ d, o.dst = some d := by
                      cases hdd : o.dst with
                      | none => unfold flag at hfl; rw [hdd] at hfl; cases hfl
                      | some d => exact ⟨d, rfl⟩
                    have hdL : d ∉ slotsOf fl ops L := by
                      rw [hsl, hfl, hdd] at hnd
                      simp only [Option.toList_some, List.singleton_append, List.nodup_cons] at hnd
                      exact hnd.1
                    have hmem : d ∈ slotsOf fl ops (i :: L) := by rw [hsl, hfl, hdd]; simp
                    rw [ev_of] at hfv
                    rw [evL_of] at b3 hcall
                    have told := flag_sound C R0 b1 b2 b3 hcall b4
                    refine ⟨fun x => if x = d then some ⟨ren ρ0 (.fn (.func g) first caps), (args.toList.map (evalA t.at)).map (ren ρ0), ren ρ0 (frzF 8 h'.a h0.a r)⟩ else A' x, fun x q hq => ?_, fun x hx => ?_, fun A hAA ρ H1 H log S => ⟨o, hi, ?_⟩⟩
                    · simp only at hq
                      split at hq
                      · cases hq; exact told
                      · exact hT x q hq
                    · have hne : x ≠ d := fun q => hx (q ▸ hmem)
                      simp only [if_neg hne]
                      exact hA x fun q => hx (by rw [hsl]; exact List.mem_append_right _ q)
                    · have hv : ¬ hvy fl o = true := by unfold hvy; rw [hfl]; simp
                      rw [if_neg hv]
                      obtain ⟨F', hr⟩ := hF S.F
                      have hAd := hAA d hmem
                      simp only [if_true] at hAd
                      have fb : (AV.fn (.func g) first caps).bd h0.n = true := by simp [AV.bd, b1, b2]
                      have hev : evalA (renF ρ t.at) f = ren ρ0 (.fn (.func g) first caps) := by
                        rw [evalA_ren, hfv]; exact (ren_agr S.ag _ fb).symm
                      have hargs : args.toList.map (evalA (renF ρ t.at)) = (args.toList.map (evalA t.at)).map (ren ρ0) := by
                        rw [evalL_ren]; exact (map_agr S.ag b3).symm
                      have hres := ren_agr S.ag _ b4
                      have htold : toldV G0 A o (renF ρ t.at) H = some (ren ρ0 (frzF 8 h'.a h0.a r)) := by
                        unfold toldV
                        rw [ho]
                        simp only [hdd, Option.bind_some, hAd]
                        rw [if_pos ⟨hev, hargs, (S.pb hpb).2⟩]
                      refine ⟨.ret (ren ρ0 (frzF 8 h'.a h0.a r)), by unfold planD; rw [hw ρ, hfl, htold]; rfl, fun x hx => .inr ⟨(fun b hb => by cases hb), fun b hb => by rw [(S.pb hpb).1 x hx] at hb; cases hb⟩, ?_⟩
                      show runL P G0 A fl ops (Kb ρ0 h0 K res) L (⟨i, accD P G0 fl ops o (renF ρ t.at), [], false⟩ :: log) ((renF ρ t.at).putO o.dst (ren ρ0 (frzF 8 h'.a h0.a r))) H
                      rw [hres, ← hr ρ]
                      refine hrun A (fun x hx => ?_) ρ H1 H _ ⟨S.ag, S.nn, S.R, S.pt, F', fun x hx => ?_, fun hp => ⟨fun x hx => ?_, (S.pb hp).2⟩⟩
                      · rw [hAA x (by rw [hsl]; exact List.mem_append_right _ hx)]
                        have hne : x ≠ d := fun q => hdL (q ▸ hx)
                        simp only [if_neg hne]
                      · rcases List.mem_cons.1 hx with rfl | hx
                        · refine .inr ⟨_, List.mem_cons_self, rfl, fun b hb => .inl ⟨rfl, ?_⟩, (fun b hb => by cases hb)⟩
                          have := hb.2
                          rw [hfl] at this
                          simpa using this
                        · rcases S.lg x hx with q | ⟨y, hy, q⟩
                          · exact .inl q
                          · exact .inr ⟨y, List.mem_cons_of_mem _ hy, q⟩
                      · rcases List.mem_cons.1 hx with rfl | hx
                        · rfl
                        · exact (S.pb hp).1 x hx
                  · cases e2
                · cases e
              | false =>
                have hkd : kindOf fl o = 2 := by unfold kindOf; rw [hcv, hfl]
                rw [hkd, ho] at e
                simp only [XK.of] at e
                obtain ⟨e1, e2⟩ := chk_some e
                split at e2
                · next r h' hxk =>
                  obtain ⟨t', e', hF⟩ := xput_some e2
                  obtain ⟨A', hT, hA, hrun⟩ := IH t' h' _ _ e'
                  refine ⟨A', hT, fun d hd => hA d fun q => hd (by rw [hsl]; exact List.mem_append_right _ q), fun A hAA ρ H1 H log S => ⟨o, hi, ?_⟩⟩
                  have hv : hvy fl o = true := by unfold hvy; rw [hcv, hfl]; rfl
                  rw [if_pos hv, hw ρ]
                  refine ⟨fun x hx => ?_, ?_⟩
                  · rcases S.lg x hx with q | ⟨y, hy, y1, _⟩
                    · exact .inl q
                    · exact .inr (by rw [← y1]; exact hms.anc (List.all_eq_true.1 e1 y hy))
                  · simp only [xk, ev_of, evL_of] at hxk
                    have c := C ρ h H1 _ _ _ _ hxk S.R
                    obtain ⟨rest, D, hH⟩ := part_un S.pt
                    have c2 := ACallV.frame c D
                    rw [← hH] at c2
                    show opRes P o (renF ρ t.at) H _
                    unfold opRes
                    rw [ho]
                    show ACallV P (evalA (renF ρ t.at) f) (args.toList.map (evalA (renF ρ t.at))) H _
                    rw [evalA_ren, evalL_ren]
                    refine ACallV.mono c2 ?_
                    rintro r2 H' ⟨H1', rfl, D', ⟨ρ', r', h2, ag, hn, R', rfl, eK⟩⟩
                    cases eK
                    obtain ⟨F', hr⟩ := hF (S.F.mono hn)
                    have hfr : (renF ρ t.at).putO o.dst (ren ρ' r) = renF ρ' t'.at := by rw [hr ρ', ← renF_agr (t := t.at) ag S.F.2]
                    show runL P G0 A fl ops (Kb ρ0 h0 K res) L [] ((renF ρ t.at).putO o.dst (ren ρ' r)) _
                    rw [hfr]
                    refine hrun A (fun d hd => hAA d (by rw [hsl]; exact List.mem_append_right _ hd)) ρ' H1' _ [] ⟨S.ag.trans ag S.nn, Nat.le_trans S.nn hn, R', fun b hb => ?_, F', (fun x hx => by cases hx), (fun q => by cases q)⟩
                    obtain ⟨c, hc⟩ := Option.ne_none_iff_exists'.1 hb
                    rw [AHeap.un_some hc, hc]
                · cases e2
          -- the guard
          unfold XO.of at hxo
          split at hxo
          · next hg =>
            cases hxo
            rw [xdops_cons] at e
            exact go (fun ρ => wanted_none hg) rfl rfl e
          · next j want hg =>
            split at hxo
            · next d hd2 =>
              cases hxo
              rw [xdops_cons] at e
              have wa : ∀ (ρ : Rn) v, ren ρ (t.getU d) = v → wantedA ops (renF ρ t.at) o = (match v with | .bool b => some (b == want) | .tup [] => some false | _ => none) := by
                intro ρ v hv
                unfold wantedA
                rw [hg]
                simp only [hd2]
                show (match ren ρ (t.getU d) with | .bool b => some (b == want) | .tup [] => some false | _ => none) = _
                rw [hv]
              simp only at e
              split at e
              · next b hb =>
                have hwa := fun ρ => wa ρ (.bool b) (by rw [hb]; rfl)
                split at e
                · next hw => exact go (fun ρ => by rw [hwa ρ]; simp [hw]) rfl rfl e
                · next hw =>
                  split at e
                  · cases e
                  · next hk => exact skip (fun ρ => by rw [hwa ρ]; simp [hw]) hk e
              · next hb =>
                split at e
                · cases e
                · next hk => exact skip (fun ρ => wa ρ (.tup []) (by rw [hb]; simp [ren])) hk e
              · cases e
            · cases hxo
        · cases hx
      · cases hl
    · cases hl

/-- **Regions that draw their order are sound.** -/
theorem draw_ok (hm : P.follows .mixedOrders = true) : DrawOk P := by
  intro call C N id ops l t h K res ρ H Q ro hl e hk R F hQ
  unfold compD compDW at hl
  split at hl
  · next ho =>
    simp only [Bool.and_eq_true] at ho
    have hms := masks_ok ops
    obtain ⟨A', hT, _, hrun⟩ := xd_sound C R hms _ l hl (nodupB_spec _ ho.2) t h [] true e
    have hG : ∃ N, ∀ b, N ≤ b → H b = none := by
      have key : ∀ n, ∃ N, ∀ i, i < n → ρ.b i < N := by
        intro n
        induction n with
        | zero => exact ⟨0, fun i hi => by omega⟩
        | succ n ih =>
          obtain ⟨N, hN⟩ := ih
          refine ⟨N + ρ.b n + 1, fun i hi => ?_⟩
          by_cases q : i = n
          · subst q; omega
          · have := hN i (by omega); omega
      obtain ⟨N, hN⟩ := key h.n
      refine ⟨N, fun b hb => ?_⟩
      by_cases q : H b = none
      · exact q
      · obtain ⟨i, hi, rfl⟩ := R.ex b q
        have := hN i (XH.get_lt hi)
        omega
    have r := hrun A' (fun _ _ => rfl) ρ H H [] ⟨.refl _ _, Nat.le_refl _, R, fun _ _ => rfl, F, (fun x hx => by cases hx), fun _ => ⟨(fun x hx => by cases hx), fun _ _ => rfl⟩⟩
    have aw : AWP P ro N (.region id ops true) (fun e => turnA (Q e)) (renF ρ t.at) H := by
      refine awp_drawL hm _ _ hG hk (ordM_spec hms ho.1) hT ?_
      have conv : ∀ t' H', Kb ρ h K res t' H' → turnA (Q .normal) t' H' := by
        rintro t' H' ⟨ρ', t2, h2, H1, ag, hn, R', pt, F', eK, rfl⟩
        refine ⟨0, H1, _, fun b => ?_, fun i => .inl rfl, hQ ρ' t2 h2 H1 ag hn R' F' eK⟩
        by_cases q : H1 b = none
        · exact .inl q
        · exact .inr (.inl (pt b q).symm)
      exact runL_monoK conv _ r
    intro hf B w a G
    exact wpIn_mono (aw hf B w a G) fun e a' w' T => T.turn
  · cases hl
end
end Go.AH
