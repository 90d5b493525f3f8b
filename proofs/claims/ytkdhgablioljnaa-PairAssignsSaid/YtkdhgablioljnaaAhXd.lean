/-
  Regions that draw: the evaluator is sound.
-/
import Derived.Test.YtkdhgablioljnaaAhXu
set_option linter.unusedSimpArgs false
set_option linter.unusedVariables false
set_option linter.unusedSectionVars false
namespace Go.AH
open Go

section
variable {P : Program} {ρ0 ρ : Rn} {h0 h : XH} {G0 H1 H : AHeap} {t : Fr} {res : AV × XH} {call : XCall} {fl ms : List Nat} {ops : Array Oper} {A : Ann}

structure St (ρ0 : Rn) (h0 : XH) (G0 : AHeap) (t : Fr) (h : XH) (xl : XL) (ρ : Rn) (H1 H : AHeap) (log : List Ent) : Prop where
  ag : Agr h0.n ρ0 ρ
  nn : h0.n ≤ h.n
  R : HRep ρ h H1
  pt : Part H1 H
  F : FrOk h.n t
  lg : LogRel ρ G0 h.n xl.es log
  gh : GhOk ρ h H1 H xl.gs
  pb : xl.pb = true → (∀ e ∈ log, e.wr = []) ∧ Part G0 H

def Kb (ρ0 : Rn) (h0 : XH) (K : Fr → XH → R) (res : AV × XH) (t' : AF) (H' : AHeap) : Prop := ∃ ρ t h H1, Agr h0.n ρ0 ρ ∧ h0.n ≤ h.n ∧ HRep ρ h H1 ∧ Part H1 H' ∧ FrOk h.n t ∧ K t h = some res ∧ t' = renF ρ t.at
def Goal (P : Program) (ρ0 : Rn) (h0 : XH) (G0 : AHeap) (fl : List Nat) (ops : Array Oper) (K : Fr → XH → R) (res : AV × XH) (L : List Nat) (t : Fr) (h : XH) (xl : XL) : Prop :=
  ∃ A', TellOk P A' ∧ (∀ d, d ∉ slotsOf fl ops L → A' d = none) ∧ ∀ A : Ann, (∀ d ∈ slotsOf fl ops L, A d = A' d) → ∀ ρ H1 H log, St ρ0 h0 G0 t h xl ρ H1 H log → runL P A fl ops (Kb ρ0 h0 K res) L log (renF ρ t.at) H

theorem xdops_cons {o : XD} {l : List XD} {xl : XL} {K : Fr → XH → R} : xdops P call h0 (o :: l) t h xl K = (match o.x.g with
      | none => xd1 P call h0 o t h xl fun t' h' log' => xdops P call h0 l t' h' log' K
      | some (j, want) => match t.getU j with
        | .bool b => match b == want with
          | true => xd1 P call h0 o t h xl fun t' h' log' => xdops P call h0 l t' h' log' K
          | false => match Nat.beq o.kind 2 with
            | true => chk (o.news.all (newPlan P t.at) && xl.es.all (fun x => tb o.m x.i || (x.wr.isEmpty && !x.fr))) (xput t o.x.d (.tup []) h.n fun t' => xdops P call h0 l t' h xl K)
            | false => xput t o.x.d (.tup []) h.n fun t' => xdops P call h0 l t' h xl K
        | .tup [] => match Nat.beq o.kind 2 with
          | true => chk (o.news.all (newPlan P t.at) && xl.es.all (fun x => tb o.m x.i || (x.wr.isEmpty && !x.fr))) (xput t o.x.d (.tup []) h.n fun t' => xdops P call h0 l t' h xl K)
          | false => xput t o.x.d (.tup []) h.n fun t' => xdops P call h0 l t' h xl K
        | _ => none) := rfl

variable {K : Fr → XH → R} {i : Nat} {L : List Nat} {o : Oper} {xs : List XD} {xl : XL}
theorem slots_cons (hi : ops[i]? = some o) : slotsOf fl ops (i :: L) = (match flag fl o with | true => o.dst.toList | false => []) ++ slotsOf fl ops L := by
  unfold slotsOf
  rw [List.filterMap_cons, hi]
  simp only
  cases flag fl o
  · rfl
  · simp only
    cases o.dst <;> rfl
theorem slots_sub (hi : ops[i]? = some o) : ∀ d ∈ slotsOf fl ops L, d ∈ slotsOf fl ops (i :: L) := fun d hd => by rw [slots_cons hi]; exact List.mem_append_right _ hd

/-- What is not wanted is passed over. -/
theorem go_skip (hi : ops[i]? = some o) (IH : ∀ t h xl, xdops P call h0 xs t h xl K = some res → Goal P ρ0 h0 G0 fl ops K res L t h xl) (hv : ¬ hvy fl o = true) (hw : ∀ ρ, wantedA ops (renF ρ t.at) o = some false)
    (e : (xput t o.dst (.tup []) h.n fun t' => xdops P call h0 xs t' h xl K) = some res) : Goal P ρ0 h0 G0 fl ops K res (i :: L) t h xl := by
  obtain ⟨t', e', hF⟩ := xput_some e
  obtain ⟨A', hT, hA, hrun⟩ := IH t' h xl e'
  refine ⟨A', hT, fun d hd => hA d fun q => hd (slots_sub hi d q), fun A hAA ρ H1 H log S => ⟨o, hi, ?_⟩⟩
  obtain ⟨F', hr⟩ := hF S.F
  rw [if_neg hv]
  have hacc : ∀ b, ¬ accD P A fl ops o (renF ρ t.at) b := fun b hb => by have := hb.1; rw [hw] at this; cases this
  refine ⟨.ret (.tup []), by unfold planD; rw [hw], fun x _ => .inr ⟨(fun b hb => by cases hb), fun b _ => hacc b⟩, ?_⟩
  show runL P A fl ops (Kb ρ0 h0 K res) L (⟨i, accD P A fl ops o (renF ρ t.at), [], false⟩ :: log) ((renF ρ t.at).putO o.dst (.tup [])) H
  have hfr : (renF ρ t.at).putO o.dst (.tup []) = renF ρ t'.at := by rw [hr ρ]; simp [ren]
  rw [hfr]
  refine hrun A (fun d hd => hAA d (slots_sub hi d hd)) ρ H1 H _ ⟨S.ag, S.nn, S.R, S.pt, F', fun x hx => ?_, S.gh, fun hp => ⟨fun x hx => ?_, (S.pb hp).2⟩⟩
  · rcases List.mem_cons.1 hx with rfl | hx
    · exact .inl ⟨hacc, rfl, rfl⟩
    · exact S.lg x hx
  · rcases List.mem_cons.1 hx with rfl | hx
    · rfl
    · exact (S.pb hp).1 x hx

/-- A plan. -/
theorem go0 (R0 : HRep ρ0 h0 G0) (hms : MasksOk ops ms) (hi : ops[i]? = some o) (IH : ∀ t h xl, xdops P call h0 xs t h xl K = some res → Goal P ρ0 h0 G0 fl ops K res L t h xl) (hw : ∀ ρ, wantedA ops (renF ρ t.at) o = some true)
    (hcv : isCallV o.op = false) (hinv : isInv o.op = false) (hfl : flag fl o = false) (hmf : mfOk o.op = true) (hna : isApp o.op = false)
    (eT : (namesOf ((accOf P o.op).map .of) t).all h.live = true) (eW : (namesOf ((wrOf o.op).map .of) t).all h.live = true) (eC : xl.es.all (xclr h0 h (ms.getD i 0) (namesOf ((accOf P o.op).map .of) t) (namesOf ((wrOf o.op).map .of) t)) = true)
    {r : AV} {h' : XH} (hxk : xk P false call (XK.of P false o.op) t h (fun r h' => some (r, h')) = some (r, h'))
    (e : (xput t o.dst r h'.n fun t' => xdops P call h0 xs t' h' ⟨addE i (namesOf ((accOf P o.op).map .of) t) (namesOf ((wrOf o.op).map .of) t) (frOf o.op) xl.es, (match (namesOf ((wrOf o.op).map .of) t).isEmpty with | true => xl.gs | false => []), xl.pb && (namesOf ((wrOf o.op).map .of) t).isEmpty⟩ K) = some res) :
    Goal P ρ0 h0 G0 fl ops K res (i :: L) t h xl := by
  obtain ⟨t', e', hF⟩ := xput_some e
  obtain ⟨A', hT, hA, hrun⟩ := IH t' h' _ e'
  refine ⟨A', hT, fun d hd => hA d fun q => hd (slots_sub hi d q), fun A hAA ρ H1 H log S => ⟨o, hi, ?_⟩⟩
  have hv : ¬ hvy fl o = true := by unfold hvy; rw [hcv]; simp
  rw [if_neg hv]
  have hnc : ∀ f args ats, o.op ≠ .call { callee := .value f, args, argTypes := ats } := fun f args ats q => by rw [q] at hcv; cases hcv
  have hni : ∀ r m args ats, o.op ≠ .call { callee := .invoke r m, args, argTypes := ats } := fun r m args ats q => by rw [q] at hinv; cases hinv
  obtain ⟨p, hp, hrunK⟩ := plan_step S.R S.pt hnc hni (mf_spec hmf) hna hxk
  have hacc : ∀ b, accD P A fl ops o (renF ρ t.at) b → ∃ a ∈ namesOf ((accOf P o.op).map .of) t, ρ.b a = b := fun b hb => by
    have := hb.2
    rw [hfl] at this
    simp only [Bool.false_eq_true, if_false] at this
    exact acc_names this
  have hwr := wr_names hp
  have lt : ∀ a ∈ namesOf ((accOf P o.op).map .of) t, a < h.n := names_lt S.F
  have ltW : ∀ a ∈ namesOf ((wrOf o.op).map .of) t, a < h.n := names_lt S.F
  refine ⟨p, by unfold planD; rw [hw ρ, hfl]; exact hp, clr_ok hms R0 S.R S.ag S.lg hacc hwr eC, ?_⟩
  refine runK_mono hrunK ?_
  rintro v H' ⟨ρ', r', h2, H1', ag, hn, R', pt', rfl, eK, keep⟩
  cases eK
  obtain ⟨F', hr⟩ := hF (S.F.mono hn)
  have hfr : (renF ρ t.at).putO o.dst (ren ρ' r) = renF ρ' t'.at := by rw [hr ρ', ← renF_agr (t := t.at) ag S.F.2]
  rw [hfr]
  have hwn : namesOf ((wrOf o.op).map .of) t = [] → wrB p = [] := fun q => by
    cases hq : wrB p with
    | nil => rfl
    | cons b l => obtain ⟨a, ha, _⟩ := hwr b (by rw [hq]; simp); rw [q] at ha; cases ha
  refine hrun A (fun d hd => hAA d (slots_sub hi d hd)) ρ' H1' H' _ ⟨S.ag.trans ag S.nn, Nat.le_trans S.nn hn, R', pt', F', ?_, ?_, fun hp2 => ?_⟩
  · refine LogRel.add (e := ⟨i, accD P A fl ops o (renF ρ t.at), wrB p, p.fr.isSome⟩) (S.lg.mono ag hn) (fun b hb => ?_) (fun b hb => ?_) fun hf => (plan_wr hp).2 fun q => by rw [q] at hf; cases hf
    · obtain ⟨a, ha, q⟩ := hacc b hb
      exact ⟨a, ha, Nat.lt_of_lt_of_le (lt a ha) hn, by rw [← (ag a (lt a ha)).1]; exact q⟩
    · obtain ⟨a, ha, q⟩ := hwr b hb
      exact ⟨a, ha, Nat.lt_of_lt_of_le (ltW a ha) hn, by rw [← (ag a (ltW a ha)).1]; exact q⟩
  · show GhOk ρ' h' H1' H' (match (namesOf ((wrOf o.op).map .of) t).isEmpty with | true => xl.gs | false => [])
    split
    · next q =>
      have q1 := keep (hwn (by simpa using q))
      exact S.gh.step ag hn q1.1 q1.2
    · exact GhOk.nil
  · simp only [Bool.and_eq_true, List.isEmpty_iff] at hp2
    have hw0 := hwn hp2.2
    have kp := keep hw0
    refine ⟨fun x hx => ?_, fun b hb => ?_⟩
    · rcases List.mem_cons.1 hx with rfl | hx
      · exact hw0
      · exact (S.pb hp2.1).1 x hx
    · have := (S.pb hp2.1).2 b hb
      rw [kp.1 b (by rw [this]; exact hb)]; exact this

/-- A call told ahead. -/
theorem go1 (C : CallOk P call) (hG : ∃ N, ∀ b, N ≤ b → G0 b = none) (R0 : HRep ρ0 h0 G0) (hi : ops[i]? = some o) (IH : ∀ t h xl, xdops P call h0 xs t h xl K = some res → Goal P ρ0 h0 G0 fl ops K res L t h xl) (hw : ∀ ρ, wantedA ops (renF ρ t.at) o = some true)
    (hnd : (slotsOf fl ops (i :: L)).Nodup) {f : Operand} {args : Array Operand} {ats : Array TypeId} (ho : o.op = .call { callee := .value f, args, argTypes := ats }) (hfl : flag fl o = true)
    {g : FuncId} {first caps : List AV} (hfv : evalA t.at f = .fn (.func g) first caps) (hpb : xl.pb = true) (b1 : AV.bdL h0.n first = true) (b2 : AV.bdL h0.n caps = true) (b3 : AV.bdL h0.n (args.toList.map (evalA t.at)) = true)
    {r : AV} {h' : XH} (hcall : call (.fn (.func g) first caps) (args.toList.map (evalA t.at)) { h0 with lo := h0.n } (fun r h' => some (r, h')) = some (r, h')) (b4 : (frzF 8 h'.a h0.a r).bd h0.n = true)
    (e : (xput t o.dst (frzF 8 h'.a h0.a r) h.n fun t' => xdops P call h0 xs t' h ⟨⟨i, true, [], [], false⟩ :: xl.es, xl.gs, xl.pb⟩ K) = some res) : Goal P ρ0 h0 G0 fl ops K res (i :: L) t h xl := by
  obtain ⟨t', e', hF⟩ := xput_some e
  obtain ⟨A', hT, hA, hrun⟩ := IH t' h _ e'
  obtain ⟨d, hdd⟩ : ∃ d, o.dst = some d := by
    cases hdd : o.dst with
    | none => unfold flag at hfl; rw [hdd] at hfl; cases hfl
    | some d => exact ⟨d, rfl⟩
  have hdL : d ∉ slotsOf fl ops L := by
    rw [slots_cons hi, hfl, hdd] at hnd
    simp only [Option.toList_some, List.singleton_append, List.nodup_cons] at hnd
    exact hnd.1
  have hmem : d ∈ slotsOf fl ops (i :: L) := by rw [slots_cons hi, hfl, hdd]; simp
  have told := flag_sound C R0 b1 b2 b3 hcall b4
  refine ⟨fun x => if x = d then some (callTold G0 (ren ρ0 (.fn (.func g) first caps) :: (args.toList.map (evalA t.at)).map (ren ρ0)) (ren ρ0 (frzF 8 h'.a h0.a r))) else A' x, fun x q hq => ?_, fun x hx => ?_, fun A hAA ρ H1 H log S => ⟨o, hi, ?_⟩⟩
  · simp only at hq
    split at hq
    · cases hq; exact call_tell x hG told
    · exact hT x q hq
  · have hne : x ≠ d := fun q => hx (q ▸ hmem)
    simp only [if_neg hne]
    exact hA x fun q => hx (slots_sub hi x q)
  · have hv : ¬ hvy fl o = true := by unfold hvy; rw [hfl]; simp
    rw [if_neg hv]
    obtain ⟨F', hr⟩ := hF S.F
    have hAd := hAA d hmem
    simp only [if_true] at hAd
    have fb : (AV.fn (.func g) first caps).bd h0.n = true := by simp [AV.bd, b1, b2]
    have hev : evalA (renF ρ t.at) f = ren ρ0 (.fn (.func g) first caps) := by
      rw [evalA_ren, hfv]; exact (ren_agr S.ag _ fb).symm
    have hargs : args.toList.map (evalA (renF ρ t.at)) = (args.toList.map (evalA t.at)).map (ren ρ0) := by
      rw [evalL_ren]; exact (map_agr S.ag b3).symm
    have hres := ren_agr S.ag _ b4
    have hkey : keyOf o (renF ρ t.at) = some (none, ren ρ0 (.fn (.func g) first caps) :: (args.toList.map (evalA t.at)).map (ren ρ0)) := by
      unfold keyOf
      rw [ho]
      simp only [hev, hargs]
    have htq : toldQ A o (renF ρ t.at) = some (callTold G0 (ren ρ0 (.fn (.func g) first caps) :: (args.toList.map (evalA t.at)).map (ren ρ0)) (ren ρ0 (frzF 8 h'.a h0.a r)), ren ρ0 (.fn (.func g) first caps) :: (args.toList.map (evalA t.at)).map (ren ρ0)) := by
      unfold toldQ
      rw [hkey, hdd, Option.bind_some, hAd]
      exact if_pos rfl
    have htold : toldV A o (renF ρ t.at) H = some (.ret (ren ρ0 (frzF 8 h'.a h0.a r))) := by
      unfold toldV
      rw [htq]
      simp only [callTold]
      rw [if_pos ⟨rfl, (S.pb hpb).2⟩]
    refine ⟨.ret (ren ρ0 (frzF 8 h'.a h0.a r)), by unfold planD; rw [hw ρ, hfl]; exact htold, fun x hx => .inr ⟨(fun b hb => by cases hb), fun b hb => by rw [(S.pb hpb).1 x hx] at hb; cases hb⟩, ?_⟩
    show runL P A fl ops (Kb ρ0 h0 K res) L (⟨i, accD P A fl ops o (renF ρ t.at), [], false⟩ :: log) ((renF ρ t.at).putO o.dst (ren ρ0 (frzF 8 h'.a h0.a r))) H
    rw [hres, ← hr ρ]
    refine hrun A (fun x hx => ?_) ρ H1 H _ ⟨S.ag, S.nn, S.R, S.pt, F', fun x hx => ?_, S.gh, fun hp => ⟨fun x hx => ?_, (S.pb hp).2⟩⟩
    · rw [hAA x (slots_sub hi x hx)]
      have hne : x ≠ d := fun q => hdL (q ▸ hx)
      simp only [if_neg hne]
    · rcases List.mem_cons.1 hx with rfl | hx
      · refine .inr ⟨_, List.mem_cons_self, rfl, fun b hb => .inl ⟨rfl, ?_⟩, (fun b hb => by cases hb), fun q => by cases q⟩
        have := hb.2
        rw [hfl] at this
        simp only [if_true, toldX, htq] at this
        exact this
      · rcases S.lg x hx with q | ⟨y, hy, q⟩
        · exact .inl q
        · exact .inr ⟨y, List.mem_cons_of_mem _ hy, q⟩
    · rcases List.mem_cons.1 hx with rfl | hx
      · rfl
      · exact (S.pb hp).1 x hx

theorem un_assoc {a b c : AHeap} : (a.un b).un c = a.un (b.un c) := by
  funext i
  simp only [AHeap.un]
  cases a i <;> rfl

/-- A call that may turn memory. -/
theorem go2 (C : CallOk P call) (hms : MasksOk ops ms) (hi : ops[i]? = some o) (IH : ∀ t h xl, xdops P call h0 xs t h xl K = some res → Goal P ρ0 h0 G0 fl ops K res L t h xl) (hw : ∀ ρ, wantedA ops (renF ρ t.at) o = some true)
    {f : Operand} {args : Array Operand} {ats : Array TypeId} (ho : o.op = .call { callee := .value f, args, argTypes := ats }) (hfl : flag fl o = false) {nw : List Op} (hnw : newsOf P fl ops ms i L = some nw) (hnp : nw.all (newPlan P t.at) = true) {ns : List Nat}
    (hun : ∀ x ∈ xl.es, tb (ms.getD i 0) x.i = true ∨ (x.wr = [] ∧ x.fr = false ∧ x.base = false ∧ ∀ a ∈ x.tch, a ∈ ns)) (hl : ∀ a ∈ ns, h.get a ≠ .gone)
    {r : AV} {h' : XH} (hcall : call (evalA t.at f) (args.toList.map (evalA t.at)) (hide h ns) (fun r h' => some (r, h')) = some (r, h'))
    (e : (xput t o.dst r h'.n fun t' => xdops P call h0 xs t' (unhide h h' ns) ⟨xl.es, [], false⟩ K) = some res) : Goal P ρ0 h0 G0 fl ops K res (i :: L) t h xl := by
  obtain ⟨t', e', hF⟩ := xput_some e
  obtain ⟨A', hT, hA, hrun⟩ := IH t' _ _ e'
  refine ⟨A', hT, fun d hd => hA d fun q => hd (slots_sub hi d q), fun A hAA ρ H1 H log S => ⟨o, hi, ?_⟩⟩
  have hv : hvy fl o = true := by unfold hvy; rw [ho, hfl]; rfl
  rw [if_pos hv]
  obtain ⟨H2, H3, D23, hH1, R2, hH3, hex⟩ := hide_rep S.R hl
  refine ⟨news_ok hms hnw hnp, fun x hx => ?_, ?_⟩
  · rcases S.lg x hx with q | ⟨y, hy, y1, _, y3, y4⟩
    · exact .inl ⟨q.2.1, q.2.2⟩
    · rcases hun y hy with q | ⟨q1, q2, _, _⟩
      · exact .inr (by rw [← y1]; exact hms.anc q)
      · refine .inl ⟨?_, ?_⟩
        · cases hq : x.wr with
          | nil => rfl
          | cons b l => obtain ⟨a, ha, _⟩ := y3 b (by rw [hq]; simp); rw [q1] at ha; cases ha
        · cases hq : x.fr with
          | false => rfl
          | true => have := y4 hq; rw [q2] at this; cases this
  · rw [hw ρ]
    simp only
    have c := C _ (hide h ns) H2 _ _ _ _ hcall R2
    have er : ren { ρ with g := (hide h ns).get } = ren ρ := ren_fun rfl rfl
    rw [er] at c
    obtain ⟨rest, D, hH⟩ := part_un S.pt
    rw [hH1, un_assoc] at hH
    have D2 : Disj H2 (H3.un rest) := fun b => by
      rcases D23 b with q | q
      · exact .inl q
      · rcases D b with q2 | q2
        · rw [hH1] at q2
          obtain ⟨q3, q4⟩ := AHeap.un_eq_none.1 q2
          exact .inl q3
        · exact .inr (AHeap.un_eq_none.2 ⟨q, q2⟩)
    have c2 := ACallV.frame c D2
    rw [← hH] at c2
    show opRes P o (renF ρ t.at) H _
    unfold opRes
    rw [ho]
    show ACallV P (evalA (renF ρ t.at) f) (args.toList.map (evalA (renF ρ t.at))) H _
    rw [evalA_ren, evalL_ren]
    refine ACallV.mono c2 ?_
    rintro r2 H' ⟨H2', rfl, D', ⟨ρ', r', h2, ag, hn, R', rfl, eK⟩⟩
    cases eK
    have D3 : Disj H2' H3 := fun b => (D' b).imp id fun q => (AHeap.un_eq_none.1 q).1
    obtain ⟨ag', R''⟩ := unhide_rep S.R hl hH3 hex ag hn R' D3
    have er2 : ren { ρ' with g := ρ.g } = ren ρ' := ren_fun rfl rfl
    refine ⟨fun x hx => ?_, ?_⟩
    · rcases S.lg x hx with q | ⟨y, hy, y1, y2, _, _⟩
      · exact .inr fun b hb => absurd hb (q.1 b)
      · rcases hun y hy with q | ⟨_, _, q3, q4⟩
        · exact .inl (by rw [← y1]; exact hms.anc q)
        · refine .inr fun b hb => ?_
          rcases y2 b hb with ⟨z, _⟩ | ⟨a, ha, _, rfl⟩
          · rw [q3] at z; cases z
          · have h3n : H3 (ρ.b a) ≠ none := by rw [hH3 a (q4 a ha)]; exact (S.R.cr a).some (hl a (q4 a ha))
            obtain ⟨ch, hch⟩ := Option.ne_none_iff_exists'.1 h3n
            have e1 : H2' (ρ.b a) = none := (D3 _).resolve_right h3n
            have e2 : H2 (ρ.b a) = none := (D23 _).resolve_right h3n
            rw [hH]
            simp only [AHeap.un, e1, e2]
    · obtain ⟨F', hr⟩ := hF (S.F.mono hn)
      have hfr : (renF ρ t.at).putO o.dst (ren ρ' r) = renF { ρ' with g := ρ.g } t'.at := by rw [hr, er2, ← renF_agr (t := t.at) ag' S.F.2]
      rw [hfr]
      refine hrun A (fun d hd => hAA d (slots_sub hi d hd)) _ (H2'.un H3) _ log ⟨S.ag.trans ag' S.nn, Nat.le_trans S.nn hn, R'', fun b hb => ?_, F', S.lg.mono ag' hn, GhOk.nil, fun q => by cases q⟩
      obtain ⟨ch, hch⟩ := Option.ne_none_iff_exists'.1 hb
      rw [← un_assoc, AHeap.un_some hch, hch]

/-- A call that is not wanted. -/
theorem go_skip2 (hms : MasksOk ops ms) (hi : ops[i]? = some o) (IH : ∀ t h xl, xdops P call h0 xs t h xl K = some res → Goal P ρ0 h0 G0 fl ops K res L t h xl) (hv : hvy fl o = true) (hw : ∀ ρ, wantedA ops (renF ρ t.at) o = some false)
    {nw : List Op} (hnw : newsOf P fl ops ms i L = some nw)
    (e : chk (nw.all (newPlan P t.at) && xl.es.all (fun x => tb (ms.getD i 0) x.i || (x.wr.isEmpty && !x.fr))) (xput t o.dst (.tup []) h.n fun t' => xdops P call h0 xs t' h xl K) = some res) : Goal P ρ0 h0 G0 fl ops K res (i :: L) t h xl := by
  obtain ⟨e1, e⟩ := chk_some e
  rw [Bool.and_eq_true] at e1
  obtain ⟨hnp, hun⟩ := e1
  obtain ⟨t', e', hF⟩ := xput_some e
  obtain ⟨A', hT, hA, hrun⟩ := IH t' h xl e'
  refine ⟨A', hT, fun d hd => hA d fun q => hd (slots_sub hi d q), fun A hAA ρ H1 H log S => ⟨o, hi, ?_⟩⟩
  obtain ⟨F', hr⟩ := hF S.F
  rw [if_pos hv]
  refine ⟨news_ok hms hnw hnp, fun x hx => ?_, ?_⟩
  · rcases S.lg x hx with q | ⟨y, hy, y1, _, y3, y4⟩
    · exact .inl ⟨q.2.1, q.2.2⟩
    · have := List.all_eq_true.1 hun y hy
      simp only [Bool.or_eq_true, Bool.and_eq_true, List.isEmpty_iff, Bool.not_eq_true'] at this
      rcases this with q | ⟨q1, q2⟩
      · exact .inr (by rw [← y1]; exact hms.anc q)
      · refine .inl ⟨?_, ?_⟩
        · cases hq : x.wr with
          | nil => rfl
          | cons b l => obtain ⟨a, ha, _⟩ := y3 b (by rw [hq]; simp); rw [q1] at ha; cases ha
        · cases hq : x.fr with
          | false => rfl
          | true => have := y4 hq; rw [q2] at this; cases this
  · rw [hw ρ]
    simp only
    have hfr : (renF ρ t.at).putO o.dst (.tup []) = renF ρ t'.at := by rw [hr ρ]; simp [ren]
    rw [hfr]
    exact hrun A (fun d hd => hAA d (slots_sub hi d hd)) ρ H1 H _ ⟨S.ag, S.nn, S.R, S.pt, F', S.lg, S.gh, S.pb⟩

/-- An append. -/
theorem go4 (R0 : HRep ρ0 h0 G0) (hms : MasksOk ops ms) (hi : ops[i]? = some o) (IH : ∀ t h xl, xdops P call h0 xs t h xl K = some res → Goal P ρ0 h0 G0 fl ops K res L t h xl) (hw : ∀ ρ, wantedA ops (renF ρ t.at) o = some true)
    (hnd : (slotsOf fl ops (i :: L)).Nodup) {args : Array Operand} {ats : Array TypeId} (ho : o.op = .call { callee := .builtin .append, args, argTypes := ats }) (hfl : flag fl o = true) {s x : Operand} {ts tx : TypeId} (ha : args.toList = [s, x]) (hat : ats.toList = [ts, tx])
    {el : TypeId} {es by_ : Nat} {z : List AV} (he : elemT P ts = some (el, es, by_, z)) (hrow : rowT P tx = true) (eC : xl.es.all (xclr h0 h (ms.getD i 0) (namesOf ((accOf P o.op).map .of) t) (namesOf ((wrOf o.op).map .of) t)) = true)
    {k : Nat} {ys : List AV} (hx : appXs h.a es (evalA t.at x) = some (k, ys))
    (e : (match evalA t.at s with
            | .nilsl => (match Nat.beq k 0 with
              | true => xput t o.dst .nilsl h.n fun t' => xdops P call h0 xs t' h ⟨addE i (namesOf ((accOf P o.op).map .of) t) [] true xl.es, xl.gs, xl.pb⟩ K
              | false => chk (Nat.blt k (2 ^ 30)) (xnew h ys (fun b => .osl b 0 k es) fun r h' => xput t o.dst r h'.n fun t' => xdops P call h0 xs t' h' ⟨addE i (namesOf ((accOf P o.op).map .of) t) [] true xl.es, xl.gs, xl.pb⟩ K))
            | .osl b 0 n es' => (match (match h.get b with | .cells m tr => some (b, m, tr) | _ => (match xl.gs.find? (fun g : Nat × Nat × Nat × Tr AV => Nat.beq g.1 b) with | some g => (match h.get g.2.1 with | .cells _ _ => some (g.2.1, g.2.2.1, g.2.2.2) | _ => none) | none => none)) with
              | some (j, m, tr) => chk (Nat.beq es' es && Nat.ble (Nat.mul n es) m && Nat.blt (Nat.add (Nat.mul n es) ys.length) 2048 && Nat.blt (Nat.add n k) (2 ^ 30) && AV.bdL h.n ys && !h.sh.contains b)
                (h.set j .gone fun h1 => h1.new (.cells (Nat.add (Nat.mul n es) ys.length) (tr.putL 11 ys (Nat.mul n es))) fun b' h' => xput t o.dst (.osl b' 0 (Nat.add n k) es) h'.n fun t' => xdops P call h0 xs t' h' ⟨addE i (namesOf ((accOf P o.op).map .of) t) (namesOf ((wrOf o.op).map .of) t) true xl.es, [(b, b', Nat.mul n es, tr)], false⟩ K)
              | none => none)
            | _ => none) = some res) : Goal P ρ0 h0 G0 fl ops K res (i :: L) t h xl := by
  obtain ⟨d, hdd⟩ : ∃ d, o.dst = some d := by
    cases hdd : o.dst with
    | none => unfold flag at hfl; rw [hdd] at hfl; cases hfl
    | some d => exact ⟨d, rfl⟩
  have hdL : d ∉ slotsOf fl ops L := by
    rw [slots_cons hi, hfl, hdd] at hnd
    simp only [Option.toList_some, List.singleton_append, List.nodup_cons] at hnd
    exact hnd.1
  have hmem : d ∈ slotsOf fl ops (i :: L) := by rw [slots_cons hi, hfl, hdd]; simp
  have hacO : accOf P o.op = [s, x] := by rw [ho]; exact ha
  have hwO : wrOf o.op = [s] := by rw [ho]; show args.toList.take 1 = [s]; rw [ha]; rfl
  -- what is common to all
  have build : ∀ {t' : Fr} {h' : XH} {xl' : XL}, Goal P ρ0 h0 G0 fl ops K res L t' h' xl' →
      (∀ (A : Ann), A d = some (appTold P [ts, tx]) → ∀ ρ H1 H log, St ρ0 h0 G0 t h xl ρ H1 H log → ∃ p, appPlan P ts tx (ren ρ (evalA t.at s)) (ren ρ (evalA t.at x)) H = some p ∧ (∀ b ∈ wrB p, ∃ a ∈ namesOf ((wrOf o.op).map .of) t, ρ.b a = b) ∧
        p.runK H fun v H' => ∃ ρ' H1', (renF ρ t.at).putO o.dst v = renF ρ' t'.at ∧ St ρ0 h0 G0 t' h' xl' ρ' H1' H' (⟨i, accD P A fl ops o (renF ρ t.at), wrB p, p.fr.isSome⟩ :: log)) → Goal P ρ0 h0 G0 fl ops K res (i :: L) t h xl := by
    rintro t' h' xl' ⟨A', hT, hA, hrun⟩ step
    refine ⟨fun x => if x = d then some (appTold P [ts, tx]) else A' x, fun x q hq => ?_, fun x hx => ?_, fun A hAA ρ H1 H log S => ⟨o, hi, ?_⟩⟩
    · simp only at hq
      split at hq
      · cases hq; exact app_tell x _
      · exact hT x q hq
    · have hne : x ≠ d := fun q => hx (q ▸ hmem)
      simp only [if_neg hne]
      exact hA x fun q => hx (slots_sub hi x q)
    · have hv : ¬ hvy fl o = true := by unfold hvy; rw [hfl]; simp
      rw [if_neg hv]
      have hAd := hAA d hmem
      simp only [if_true] at hAd
      obtain ⟨p, hp, hwr, hrn⟩ := step A hAd ρ H1 H log S
      have hkey : keyOf o (renF ρ t.at) = some (some [ts, tx], [ren ρ (evalA t.at s), ren ρ (evalA t.at x)]) := by
        unfold keyOf
        rw [ho]
        simp only [ha, hat, List.map_cons, List.map_nil, evalA_ren]
      have htq : toldQ A o (renF ρ t.at) = some (appTold P [ts, tx], [ren ρ (evalA t.at s), ren ρ (evalA t.at x)]) := by
        unfold toldQ
        rw [hkey, hdd, Option.bind_some, hAd]
        exact if_pos rfl
      have hpd : planD P A fl ops o (renF ρ t.at) H = some p := by
        unfold planD
        rw [hw ρ, hfl]
        show toldV A o (renF ρ t.at) H = some p
        unfold toldV
        rw [htq]
        exact hp
      have hacc : ∀ b, accD P A fl ops o (renF ρ t.at) b → ∃ a ∈ namesOf ((accOf P o.op).map .of) t, ρ.b a = b := fun b hb => by
        have := hb.2
        rw [hfl] at this
        simp only [if_true, toldX, htq] at this
        obtain ⟨v, hv, hb2⟩ := this
        rw [hacO]
        simp only [List.mem_cons, List.not_mem_nil, or_false] at hv
        rcases hv with rfl | rfl
        · exact names_of (x := s) (by simp) (by rw [evalA_ren]; exact blkS_sub hb2)
        · exact names_of (x := x) (by simp) (by rw [evalA_ren]; exact blkS_sub hb2)
      refine ⟨p, hpd, clr_ok hms R0 S.R S.ag S.lg hacc hwr eC, runK_mono hrn ?_⟩
      rintro v H' ⟨ρ', H1', hfr, S'⟩
      rw [hfr]
      exact hrun A (fun x hx => by
        rw [hAA x (slots_sub hi x hx)]
        have hne : x ≠ d := fun q => hdL (q ▸ hx)
        simp only [if_neg hne]) ρ' H1' H' _ S'
  have lt : FrOk h.n t → ∀ a ∈ namesOf ((accOf P o.op).map .of) t, a < h.n := fun F => names_lt F
  have haccN : ∀ (A : Ann), A d = some (appTold P [ts, tx]) → ∀ ρ b, accD P A fl ops o (renF ρ t.at) b → ∃ a ∈ namesOf ((accOf P o.op).map .of) t, ρ.b a = b := by
    intro A hAd ρ b hb
    have htq : toldQ A o (renF ρ t.at) = some (appTold P [ts, tx], [ren ρ (evalA t.at s), ren ρ (evalA t.at x)]) := by
      unfold toldQ
      rw [show keyOf o (renF ρ t.at) = some (some [ts, tx], [ren ρ (evalA t.at s), ren ρ (evalA t.at x)]) from by
        unfold keyOf
        rw [ho]
        simp only [ha, hat, List.map_cons, List.map_nil, evalA_ren], hdd, Option.bind_some, hAd]
      exact if_pos rfl
    have := hb.2
    rw [hfl] at this
    simp only [if_true, toldX, htq] at this
    obtain ⟨v, hv, hb2⟩ := this
    rw [hacO]
    simp only [List.mem_cons, List.not_mem_nil, or_false] at hv
    rcases hv with rfl | rfl
    · exact names_of (x := s) (by simp) (by rw [evalA_ren]; exact blkS_sub hb2)
    · exact names_of (x := x) (by simp) (by rw [evalA_ren]; exact blkS_sub hb2)
  have hxH : ∀ {ρ H1 H log}, St ρ0 h0 G0 t h xl ρ H1 H log → appXs H es (ren ρ (evalA t.at x)) = some (k, ys.map (ren ρ)) := fun S => appXs_part (appXs_ren S.R hx) S.pt
  split at e
  · next hs =>
    split at e
    · next hk =>
      have hk0 : k = 0 := by simpa using hk
      obtain ⟨t', e', hF⟩ := xput_some e
      refine build (IH t' h _ e') fun A hAd ρ H1 H log S => ⟨.ret .nilsl, ?_, (fun b hb => by cases hb), ?_⟩
      · unfold appPlan
        rw [he]
        simp only [hrow, if_true, hxH S, hs, ren, hk0]
      · obtain ⟨F', hr⟩ := hF S.F
        refine ⟨ρ, H1, by rw [hr ρ]; simp only [ren]; rfl, S.ag, S.nn, S.R, S.pt, F', ?_, S.gh, fun hp => ⟨fun y hy => ?_, (S.pb hp).2⟩⟩
        · exact LogRel.add (e := ⟨i, _, [], false⟩) S.lg (fun b hb => by obtain ⟨a, q1, q2⟩ := haccN A hAd ρ b hb; exact ⟨a, q1, lt S.F a q1, q2⟩) (fun b hb => by cases hb) fun _ => rfl
        · rcases List.mem_cons.1 hy with rfl | hy
          · rfl
          · exact (S.pb hp).1 y hy
    · next hk =>
      have hk0 : k ≠ 0 := by intro q; subst q; simp at hk
      obtain ⟨e1, e2⟩ := chk_some e
      have e2' := e2
      unfold xnew at e2
      obtain ⟨e3, e4⟩ := chk_some e2
      obtain ⟨e5, e6⟩ := new_some e4
      obtain ⟨t', e', hF⟩ := xput_some e6
      simp only [Bool.and_eq_true] at e3
      refine build (IH t' _ _ e') fun A hAd ρ H1 H log S => ⟨.new (.cells (ys.map (ren ρ))) fun b => .osl b 0 k es, ?_, (fun b hb => by cases hb), ?_⟩
      · unfold appPlan
        rw [he]
        simp only [hrow, if_true, hxH S, hs, ren]
        rw [if_neg hk0, if_pos (Nat.blt_eq.mp e1)]
      · rw [runKP_iff (ax := fun _ => False) (.inl rfl)]
        intro v δ oδ
        cases oδ with
        | ret q1 q2 => cases q2
        | put b c q1 q2 => cases q1
        | inpl b c q1 q2 => cases q1
        | move b c b' q1 q2 hb => cases q1
        | new c b q1 q2 hb =>
          cases q2
          have hb1 : H1 b = none := by
            by_cases q : H1 b = none
            · exact q
            · rw [← S.pt b q]; exact hb
          obtain ⟨hl1, hl2⟩ := ofL_spec (l := ys) (by have := Nat.blt_eq.mp e3.1; omega)
          obtain ⟨ρ', ag, r1, r2, r3, R'⟩ := S.R.new e5 hb1 (c := .cells ys.length (ofL ys)) (C := .cells (ys.map (ren ρ))) (by simp)
            ⟨by have := Nat.blt_eq.mp e3.1; omega, hl1, by rw [hl2]; exact bdL_mono (Nat.le_succ _) _ e3.2⟩ (ρ.r 0)
            (CR.cells0 (by simp) (by rw [hl2, List.nil_append, map_agr (n := h.n) (ρ := ρ) Agr.new e3.2]))
          have hn : h.n ≤ h.n + 1 := Nat.le_succ _
          obtain ⟨F', hr⟩ := hF (S.F.mono hn)
          have up : ∀ x, H x ≠ none → (H.upd b (.cells (ys.map (ren ρ)))) x = H x := fun x hx => by
            have : x ≠ b := fun q => hx (q ▸ hb)
            rw [AHeap.upd_ne this]
          refine ⟨ρ', _, ?_, S.ag.trans ag S.nn, Nat.le_trans S.nn hn, R', ?_, F', ?_, S.gh.step ag hn up fun x hx q => ?_, fun hp => ⟨fun y hy => ?_, fun x hx => ?_⟩⟩
          · rw [hr ρ', ← renF_agr (t := t.at) ag S.F.2]
            simp only [ren]
            rw [r1, r2]
            rfl
          · intro x hx
            show (H.upd b _) x = _
            by_cases q : x = b
            · subst q; rw [AHeap.upd_same, AHeap.upd_same]
            · rw [AHeap.upd_ne q] at hx ⊢
              rw [AHeap.upd_ne q]
              exact S.pt x hx
          · exact LogRel.add (e := ⟨i, _, [], true⟩) (S.lg.mono ag hn) (fun b hb => by
              obtain ⟨a, q1, q2⟩ := haccN A hAd ρ b hb
              have := lt S.F a q1
              exact ⟨a, q1, Nat.lt_succ_of_lt this, by rw [← (ag a this).1]; exact q2⟩) (fun b hb => by cases hb) fun _ => rfl
          · have : x ≠ b := fun q => hx (q ▸ hb)
            rw [AHeap.upd_ne this]; exact q
          · rcases List.mem_cons.1 hy with rfl | hy
            · rfl
            · exact (S.pb hp).1 y hy
          · have := (S.pb hp).2 x hx
            show (H.upd b _) x = _
            rw [up x (by rw [this]; exact hx)]; exact this
  · next b n es' hs =>
    split at e
    · next j m tr hsrc =>
      obtain ⟨e1, e2⟩ := chk_some e
      simp only [Bool.and_eq_true] at e1
      obtain ⟨⟨⟨⟨⟨c1, c2⟩, c3⟩, c4⟩, c5⟩, c7⟩ := e1
      have c1 : es' = es := by simpa using c1
      subst c1
      have c2 : n * es' ≤ m := by simpa using c2
      have c3 : n * es' + ys.length < 2048 := Nat.blt_eq.mp c3
      have c4 : n + k < 2 ^ 30 := Nat.blt_eq.mp c4
      obtain ⟨hlo, hjn, e3⟩ := set_some e2
      obtain ⟨e5, e6⟩ := new_some e3
      obtain ⟨t', e', hF⟩ := xput_some e6
      have hnames : namesOf ((wrOf o.op).map .of) t = [b] := by
        rw [hwO]
        unfold namesOf
        simp only [List.map_cons, List.map_nil, List.flatMap_cons, List.flatMap_nil, List.append_nil, ev_of, hs, blk]
      refine build (IH t' _ _ e') fun A hAd ρ H1 H log S => ?_
      obtain ⟨g1, g2, g3, g4, ⟨cs, g5, g6, g7⟩, g8⟩ := gh_src S.R S.pt S.gh hsrc c2 (by simpa using c7)
      have sp : ρ.p b = [] := S.R.s0 b g2 (by simpa using c7)
      have sb : ρ.s b = 0 := by unfold Rn.s; rw [sp]; rfl
      refine ⟨⟨fun b' => .osl b' 0 (n + k) es', some (ρ.b b, none), some (.cells (cs.take (n * es') ++ ys.map (ren ρ)))⟩, ?_, fun b' hb' => ?_, ?_⟩
      · unfold appPlan
        rw [he]
        simp only [hrow, if_true, hxH S, hs, ren, sb, g5]
        rw [if_pos ⟨trivial, c4, g6⟩]
      · simp [wrB] at hb'
        rw [hnames]
        exact ⟨b, by simp, hb'.symm⟩
      · rw [runKP_iff (ax := fun x => x = ρ.b b) (.inr (.inr ⟨_, _, rfl, rfl, rfl⟩))]
        have main : ∀ bt, (H1.del (ρ.b j)) bt = none → (bt = ρ.b b ∨ H bt = none) → ∃ ρ' H1', (renF ρ t.at).putO o.dst (.osl bt 0 (n + k) es') = renF ρ' t'.at ∧ St ρ0 h0 G0 t' { m := (h.m.put 14 j .gone).put 14 h.n (.cells (n * es' + ys.length) (tr.putL 11 ys (n * es'))), n := Nat.add h.n 1, lo := h.lo, sh := h.sh }
            ⟨addE i (namesOf ((accOf P o.op).map .of) t) (namesOf ((wrOf o.op).map .of) t) true xl.es, [(b, h.n, n * es', tr)], false⟩ ρ' H1' (H.upd bt (.cells (cs.take (n * es') ++ ys.map (ren ρ)))) (⟨i, accD P A fl ops o (renF ρ t.at), [ρ.b b], true⟩ :: log) := by
          intro bt hbt hbt2
          have R1 := S.R.del hlo g1
          have tk : (tr.putL 11 ys (n * es')).take (n * es' + ys.length) 0 = tr.take (n * es') 0 ++ ys := by
            rw [Tr.putL_take g3 (by simpa using Nat.le_of_lt c3) (Nat.le_refl _)]
            unfold splice
            rw [Tr.take_take _ _ _ _ (Nat.le_add_right _ _), List.drop_of_length_le (by simp [Tr.take_length]), List.append_nil]
          have bdx : AV.bdL h.n (tr.take (n * es') 0 ++ ys) = true := by
            rw [bdL_iff] at g4 c5 ⊢
            intro a ha
            rcases List.mem_append.1 ha with q | q
            · exact g4 a q
            · exact c5 a q
          obtain ⟨ρ', ag, r1, r2, r3, R'⟩ := R1.new e5 hbt (c := .cells (n * es' + ys.length) (tr.putL 11 ys (n * es'))) (C := .cells (cs.take (n * es') ++ ys.map (ren ρ))) (by simp)
            ⟨by omega, (Tr.putL_spec 11 ys tr (n * es') g3 (by omega)).1, by rw [tk]; exact bdL_mono (Nat.le_succ _) _ bdx⟩ (ρ.r 0)
            (CR.cells0 (by simp) (by
              rw [tk, List.nil_append, g7, ← List.map_append]
              rw [map_agr (n := h.n) (ρ := ρ) Agr.new bdx]))
          have hn : h.n ≤ h.n + 1 := Nat.le_succ _
          obtain ⟨F', hr⟩ := hF (S.F.mono hn)
          have ab := (ag b g2).1
          refine ⟨ρ', _, ?_, S.ag.trans ag S.nn, Nat.le_trans S.nn hn, R', ?_, F', ?_, ?_, fun q => by cases q⟩
          · rw [hr ρ', ← renF_agr (t := t.at) ag S.F.2]
            simp only [ren]
            rw [r1, r2]
            rfl
          · intro x hx
            by_cases q : x = bt
            · subst q; rw [AHeap.upd_same, AHeap.upd_same]
            · rw [AHeap.upd_ne q] at hx ⊢
              rw [AHeap.upd_ne q]
              have hxj : x ≠ ρ.b j := fun q => by rw [q, AHeap.del_same] at hx; exact hx rfl
              rw [AHeap.del_ne hxj] at hx ⊢
              exact S.pt x hx
          · refine LogRel.add (e := ⟨i, _, [ρ.b b], true⟩) (S.lg.mono ag hn) (fun b hb => ?_) (fun b' hb' => ?_) fun _ => rfl
            · obtain ⟨a, q1, q2⟩ := haccN A hAd ρ b hb
              have := lt S.F a q1
              exact ⟨a, q1, Nat.lt_succ_of_lt this, by rw [← (ag a this).1]; exact q2⟩
            · rw [List.mem_singleton] at hb'
              exact ⟨b, by rw [hnames]; simp, Nat.lt_succ_of_lt g2, by rw [← ab, hb']⟩
          · intro g hg
            rw [List.mem_singleton] at hg
            subst hg
            refine ⟨Nat.lt_succ_of_lt g2, Nat.lt_succ_self _, g3, bdL_mono hn _ g4, ?_, ?_⟩
            · show ∃ cs', (H.upd bt _) (ρ'.b b) = _ ∧ _
              rw [← ab, ← map_agr ag g4, ← g7]
              by_cases q : ρ.b b = bt
              · exact ⟨_, by rw [q, AHeap.upd_same], by simp; omega, by simp only; rw [List.take_append_of_le_length (by simp; omega), List.take_take, Nat.min_self]⟩
              · exact ⟨cs, by rw [AHeap.upd_ne q]; exact g5, g6, rfl⟩
            · show ((H1.del (ρ.b j)).upd bt _) (ρ'.b b) = none ∨ ρ'.b b = ρ'.b h.n
              rw [← ab, r1]
              by_cases q : ρ.b b = bt
              · exact .inr q
              · left
                rw [AHeap.upd_ne q]
                rcases g8 with g8 | g8
                · by_cases q2 : ρ.b b = ρ.b j
                  · rw [q2, AHeap.del_same]
                  · rw [AHeap.del_ne q2]; exact g8
                · rw [g8, AHeap.del_same]
        intro v δ oδ
        cases oδ with
        | ret q1 q2 => cases q1
        | put b c q1 q2 => cases q1
        | new c b q1 q2 hb => cases q1
        | inpl b' c q1 q2 =>
          cases q1; cases q2
          refine main (ρ.b b) ?_ (.inl rfl)
          rcases g8 with g8 | g8
          · by_cases q2 : ρ.b b = ρ.b j
            · rw [q2, AHeap.del_same]
            · rw [AHeap.del_ne q2]; exact g8
          · rw [g8, AHeap.del_same]
        | move b' c bt q1 q2 hb =>
          cases q1; cases q2
          refine main bt ?_ (.inr hb)
          by_cases q2 : bt = ρ.b j
          · rw [q2, AHeap.del_same]
          · rw [AHeap.del_ne q2]
            by_cases q : H1 bt = none
            · exact q
            · rw [← S.pt bt q]; exact hb
    · cases e
  · cases e

theorem xd_sound (C : CallOk P call) (hG : ∃ N, ∀ b, N ≤ b → G0 b = none) (R0 : HRep ρ0 h0 G0) (hms : MasksOk ops ms) : ∀ (L : List Nat) (l : List XD), compDL P fl ops ms L = some l → (slotsOf fl ops L).Nodup → ∀ (t : Fr) (h : XH) (xl : XL), xdops P call h0 l t h xl K = some res → Goal P ρ0 h0 G0 fl ops K res L t h xl
  | [], l, hl, _, t, h, xl, e => by
    cases hl
    refine ⟨fun _ => none, (fun d q hq => by cases hq), fun _ _ => rfl, fun A _ ρ H1 H log S => ?_⟩
    exact ⟨ρ, t, h, H1, S.ag, S.nn, S.R, S.pt, S.F, e, rfl⟩
  | i :: L, l, hl, hnd, t, h, xl, e => by
    simp only [compDL] at hl
    split at hl
    · next o xs hi hxs =>
      split at hl
      · next x hx =>
        cases hl
        unfold XD.of at hx
        split at hx
        · next xo nw hok hxo hnw =>
          simp only [Option.some.injEq] at hx
          subst hx
          simp only [Bool.and_eq_true, Bool.not_eq_true'] at hok
          obtain ⟨⟨hmf, hinv⟩, hfc⟩ := hok
          have hndL : (slotsOf fl ops L).Nodup := by
            rw [slots_cons hi] at hnd; exact (List.nodup_append.1 hnd).2.1
          have IH := fun t h xl e => xd_sound C hG R0 hms L xs hxs hndL t h xl e
          have hk2 : Nat.beq (kindOf fl o) 2 = false → ¬ hvy fl o = true := by
            unfold kindOf hvy
            intro q q2
            simp only [Bool.and_eq_true, Bool.not_eq_true'] at q2
            obtain ⟨q3, q4⟩ := q2
            cases hap : isApp o.op with
            | true =>
              obtain ⟨d, op, ty, pos, af, g⟩ := o
              cases op <;> try (cases q3; done)
              rename_i c
              obtain ⟨callee, args, ats⟩ := c
              cases callee <;> first | cases hap | cases q3
            | false => rw [hap, q3, q4] at q; cases q
          have hk3 : Nat.beq (kindOf fl o) 2 = true → hvy fl o = true := by
            intro q
            unfold kindOf at q
            unfold hvy
            cases hap : isApp o.op <;> cases hcv : isCallV o.op <;> cases hf : flag fl o <;> simp [hap, hcv, hf] at q ⊢
          have go : (∀ ρ, wantedA ops (renF ρ t.at) o = some true) → xo.d = o.dst → xo.k = XK.of P (flag [] o) o.op →
              (xd1 P call h0 ⟨xo, i, ms.getD i 0, kindOf fl o, (accOf P o.op).map .of, (wrOf o.op).map .of, frOf o.op, nw⟩ t h xl fun t' h' log' => xdops P call h0 xs t' h' log' K) = some res → Goal P ρ0 h0 G0 fl ops K res (i :: L) t h xl := by
            intro hw hd hk e
            have hfl0 : flag [] o = false := by unfold flag; cases o.dst <;> rfl
            rw [hfl0] at hk
            unfold xd1 at e
            simp only at e
            rw [hd, hk] at e
            cases hap : isApp o.op with
            | true =>
              rw [hap] at hfc
              have hkd : kindOf fl o = 4 := by unfold kindOf; rw [hap]
              rw [hkd] at e
              obtain ⟨args, ats, ho⟩ : ∃ args ats, o.op = .call { callee := .builtin .append, args, argTypes := ats } := by
                cases hoo : o.op <;> rw [hoo] at hap <;> try (cases hap; done)
                rename_i c
                obtain ⟨callee, args, ats⟩ := c
                cases callee <;> try (cases hap; done)
                rename_i bi
                cases bi <;> first | exact ⟨_, _, rfl⟩ | cases hap
              have hkk : XK.of P false o.op = .gen (.call { callee := .builtin .append, args, argTypes := ats }) := by rw [ho]; rfl
              rw [hkk] at e
              simp only at e
              split at e
              · next s x ts tx ha hat =>
                split at e
                · next el es by_ z he =>
                  obtain ⟨e1, e2⟩ := chk_some e
                  simp only [Bool.and_eq_true] at e1
                  split at e2
                  · next k ys hx =>
                    exact go4 R0 hms hi IH hw hnd ho hfc ha hat he e1.1 e1.2 hx e2
                  · cases e2
                · cases e
              · cases e
            | false =>
              rw [hap] at hfc
              cases hcv : isCallV o.op with
              | false =>
                have hfl : flag fl o = false := by
                  rw [hcv] at hfc
                  cases hq : flag fl o with
                  | false => rfl
                  | true => rw [hq] at hfc; cases hfc
                have hkd : kindOf fl o = 0 := by unfold kindOf; rw [hap, hcv]
                rw [hkd] at e
                simp only at e
                obtain ⟨e1, e2⟩ := chk_some e
                simp only [Bool.and_eq_true] at e1
                obtain ⟨⟨eT, eW⟩, eC⟩ := e1
                split at e2
                · next r h' hxk => exact go0 R0 hms hi IH hw hcv hinv hfl hmf hap eT eW eC hxk e2
                · cases e2
              | true =>
                have hop : ∃ f args ats, o.op = .call { callee := .value f, args, argTypes := ats } := by
                  cases ho : o.op <;> rw [ho] at hcv <;> try cases hcv
                  rename_i c
                  obtain ⟨callee, args, ats⟩ := c
                  cases callee <;> first | exact ⟨_, _, _, rfl⟩ | cases hcv
                obtain ⟨f, args, ats, ho⟩ := hop
                cases hfl : flag fl o with
                | true =>
                  have hkd : kindOf fl o = 1 := by unfold kindOf; rw [hap, hcv, hfl]
                  rw [hkd, ho] at e
                  simp only [XK.of] at e
                  split at e
                  · next g first caps hfv =>
                    obtain ⟨e1, e2⟩ := chk_some e
                    simp only [Bool.and_eq_true] at e1
                    obtain ⟨⟨⟨hpb, b1⟩, b2⟩, b3⟩ := e1
                    split at e2
                    · next r h' hcall =>
                      obtain ⟨b4, e3⟩ := chk_some e2
                      rw [ev_of] at hfv
                      rw [evL_of] at b3 hcall
                      exact go1 C hG R0 hi IH hw hnd ho hfl hfv hpb b1 b2 b3 hcall b4 e3
                    · cases e2
                  · cases e
                | false =>
                  have hkd : kindOf fl o = 2 := by unfold kindOf; rw [hap, hcv, hfl]
                  have hvy' : hvy fl o = true := by unfold hvy; rw [hcv, hfl]; rfl
                  rw [hvy'] at hnw
                  rw [hkd, ho] at e
                  simp only [XK.of] at e
                  obtain ⟨e1, e2⟩ := chk_some e
                  split at e2
                  · next hun =>
                    split at e2
                    · next r h' hxk =>
                      simp only [xk, ev_of, evL_of] at hxk
                      exact go2 (ns := []) C hms hi IH hw ho hfl hnw e1 (fun x hx => by
                        cases hq : tb (ms.getD i 0) x.i with
                        | true => exact .inl rfl
                        | false =>
                          have : x ∈ xl.es.filter fun x => !tb (ms.getD i 0) x.i := List.mem_filter.2 ⟨hx, by rw [hq]; rfl⟩
                          rw [hun] at this; cases this) (fun a ha => by cases ha) hxk e2
                    · cases e2
                  · next un hun =>
                    obtain ⟨e3, e4⟩ := chk_some e2
                    simp only [Bool.and_eq_true] at e3
                    obtain ⟨e5, e6⟩ := e3
                    split at e4
                    · next r h' hxk =>
                      simp only [xk, ev_of, evL_of] at hxk
                      refine go2 C hms hi IH hw ho hfl hnw e1 (fun x hx => ?_) (fun a ha => live_iff.1 (List.all_eq_true.1 e6 a ha)) hxk e4
                      cases hq : tb (ms.getD i 0) x.i with
                      | true => exact .inl rfl
                      | false =>
                        right
                        have hm : x ∈ xl.es.filter fun x => !tb (ms.getD i 0) x.i := List.mem_filter.2 ⟨hx, by rw [hq]; rfl⟩
                        have := List.all_eq_true.1 e5 x hm
                        simp only [Bool.and_eq_true, List.isEmpty_iff, Bool.not_eq_true'] at this
                        exact ⟨this.1.1, this.1.2, this.2, fun a ha => List.mem_flatMap.2 ⟨x, hm, ha⟩⟩
                    · cases e4
          -- the guard
          unfold XO.of at hxo
          split at hxo
          · next hg =>
            cases hxo
            rw [xdops_cons] at e
            exact go (fun ρ => wanted_none hg) rfl rfl e
          · next j want hg =>
            split at hxo
            · next d hd2 =>
              cases hxo
              rw [xdops_cons] at e
              have wa : ∀ (ρ : Rn) v, ren ρ (t.getU d) = v → wantedA ops (renF ρ t.at) o = (match v with | .bool b => some (b == want) | .tup [] => some false | _ => none) := by
                intro ρ v hv
                unfold wantedA
                rw [hg]
                simp only [hd2]
                show (match ren ρ (t.getU d) with | .bool b => some (b == want) | .tup [] => some false | _ => none) = _
                rw [hv]
              simp only at e
              split at e
              · next b hb =>
                have hwa := fun ρ => wa ρ (.bool b) (by rw [hb]; rfl)
                split at e
                · next hw => exact go (fun ρ => by rw [hwa ρ]; simp [hw]) rfl rfl e
                · next hw =>
                  split at e
                  · next hk => exact go_skip2 hms hi IH (hk3 hk) (fun ρ => by rw [hwa ρ]; simp [hw]) (by rw [hk3 hk] at hnw; exact hnw) e
                  · next hk => exact go_skip hi IH (hk2 hk) (fun ρ => by rw [hwa ρ]; simp [hw]) e
              · next hb =>
                split at e
                · next hk => exact go_skip2 hms hi IH (hk3 hk) (fun ρ => wa ρ (.tup []) (by rw [hb]; simp [ren])) (by rw [hk3 hk] at hnw; exact hnw) e
                · next hk => exact go_skip hi IH (hk2 hk) (fun ρ => wa ρ (.tup []) (by rw [hb]; simp [ren])) e
              · cases e
            · cases hxo
        · cases hx
      · cases hl
    · cases hl

/-- **Regions that draw their order are sound.** -/
theorem draw_ok0 (hm : P.follows .mixedOrders = true) : DrawOk0 P := by
  intro call C N id ops l t h K res ρ H Q ro hl e hk R F hQ
  unfold compD compDW at hl
  split at hl
  · next ho =>
    simp only [Bool.and_eq_true] at ho
    have hms := masks_ok ops
    have hG : ∃ N, ∀ b, N ≤ b → H b = none := by
      have key : ∀ n, ∃ N, ∀ i, i < n → ρ.b i < N := by
        intro n
        induction n with
        | zero => exact ⟨0, fun i hi => by omega⟩
        | succ n ih =>
          obtain ⟨N, hN⟩ := ih
          refine ⟨N + ρ.b n + 1, fun i hi => ?_⟩
          by_cases q : i = n
          · subst q; omega
          · have := hN i (by omega); omega
      obtain ⟨N, hN⟩ := key h.n
      refine ⟨N, fun b hb => ?_⟩
      by_cases q : H b = none
      · exact q
      · obtain ⟨i, hi, rfl⟩ := R.ex b q
        have := hN i (XH.get_lt hi)
        omega
    obtain ⟨A', hT, _, hrun⟩ := xd_sound C hG R hms _ l hl (nodupB_spec _ ho.2) t h ⟨[], [], true⟩ e
    have r := hrun A' (fun _ _ => rfl) ρ H H [] ⟨.refl _ _, Nat.le_refl _, R, fun _ _ => rfl, F, (fun x hx => by cases hx), GhOk.nil, fun _ => ⟨(fun x hx => by cases hx), fun _ _ => rfl⟩⟩
    have aw : AWP P ro N (.region id ops true) (fun e => turnA (Q e)) (renF ρ t.at) H := by
      refine awp_drawL hm _ _ hk (ordM_spec hms ho.1) hT ?_
      have conv : ∀ t' H', Kb ρ h K res t' H' → turnA (Q .normal) t' H' := by
        rintro t' H' ⟨ρ', t2, h2, H1, ag, hn, R', pt, F', eK, rfl⟩
        refine ⟨0, H1, _, fun b => ?_, fun i => .inl rfl, hQ ρ' t2 h2 H1 ag hn R' F' eK⟩
        by_cases q : H1 b = none
        · exact .inl q
        · exact .inr (.inl (pt b q).symm)
      exact runL_monoK conv _ r
    intro hf B w a G
    exact wpIn_mono (aw hf B w a G) fun e a' w' T => T.turn
  · cases hl
theorem pairsS_spec {P : Program} {ops : Array Oper} {ms : List Nat} (h : MasksOk ops ms) : ∀ l : List Nat, pairsS P ms ops l = true → pairsOk P ops [] l = true
  | [], _ => rfl
  | i :: l, e => by
    simp only [pairsS, Bool.and_eq_true] at e
    simp only [pairsOk, Bool.and_eq_true]
    refine ⟨List.all_eq_true.2 fun j hj => ?_, pairsS_spec h l e.2⟩
    have := List.all_eq_true.1 e.1 j hj
    simp only [Bool.or_eq_true] at this ⊢
    rcases this with q | q
    · exact .inl (h.anc q)
    · exact .inr q
theorem awpOpsG_of_nil {ops : Array Oper} {Kq : AF → AHeap → Prop} : ∀ (os : List Oper) (t : AF) (h : AHeap), awpOps P ops Kq os t h → awpOpsG P [] [] ops Kq os t h
  | [], _, _, e => e
  | o :: os, t, h, e => by
    have hf : ¬ flag [] o = true := by unfold flag; cases o.dst <;> simp
    show stepW P [] [] ops o _ t h
    unfold stepW
    simp only [awpOps] at e
    split at e
    · next hw =>
      rw [hw]
      simp only [stepG, resG, if_neg hf]
      exact opRes_mono e fun r h' => awpOpsG_of_nil os _ h'
    · next hw => rw [hw]; exact awpOpsG_of_nil os _ h e
    · exact e.elim
theorem stat_ok (hm : P.follows .mixedOrders = true) : StatOk P := by
  intro call C N id ops l t h K res ρ H Q ro hst hl e hk R F hQ
  have hd : drawOk P ops [] (ordOf P [] ops.toList) = true := by
    unfold statD at hst
    split at hst
    · simp only [Bool.and_eq_true] at hst
      simp only [drawOk, Bool.and_eq_true]
      exact ⟨⟨⟨hst.1.1.1, pairsS_spec (masks_ok ops) _ hst.1.1.2⟩, hst.1.2⟩, hst.2⟩
    · cases hst
  refine awp_draws hm [] (ordOf P [] ops.toList) [] hk hd trivial ?_
  have q := xops_awp C (ops := ops) _ l ρ t h H hl R F e
  refine awpOpsG_of_nil _ _ _ ?_
  refine awpOps_mono (fun t2 H2 => ?_) _ _ _ q
  rintro ⟨ρ', t', h', rfl, ag, hn, R', F', eK⟩
  exact hQ _ _ _ _ ag hn R' F' eK
theorem draw_ok (hm : P.follows .mixedOrders = true) : DrawOk P := ⟨draw_ok0 hm, stat_ok hm⟩
end
end Go.AH
