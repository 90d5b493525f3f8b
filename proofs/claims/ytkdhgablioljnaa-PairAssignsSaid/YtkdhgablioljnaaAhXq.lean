/-
  Regions that draw: what is told of appends; blocks out of sight; fresh blocks to come.
-/
import Derived.Test.YtkdhgablioljnaaAhXp
set_option linter.unusedSimpArgs false
set_option linter.unusedVariables false
set_option linter.unusedSectionVars false
namespace Go.AH
open Go

/-! ### Appends -/
def appPlan (P : Program) (ts tx : TypeId) (s x : AV) (h : AHeap) : Option Plan := match elemT P ts with
  | some (_, es, _, _) => if rowT P tx = true then match appXs h es x with
    | some (k, xs) => match s with
      | .nilsl => if k = 0 then some (.ret .nilsl) else if k < 2 ^ 30 then some (.new (.cells xs) fun b => .osl b 0 k es) else none
      | .osl b 0 n es' => match h b with
        | some (.cells cs) => if es' = es ∧ n + k < 2 ^ 30 ∧ n * es ≤ cs.length then some ⟨fun b' => .osl b' 0 (n + k) es, some (b, none), some (.cells (cs.take (n * es) ++ xs))⟩ else none
        | _ => none
      | _ => none
    | none => none
    else none
  | none => none
def appP (P : Program) (ats : List TypeId) (c : List AV) (h : AHeap) : Option Plan := match ats, c with
  | [ts, tx], [s, x] => appPlan P ts tx s x h
  | _, _ => none
def appAx (c : List AV) (b : Nat) : Prop := ∃ v ∈ c, b ∈ blkS v
def appTold (P : Program) (ats : List TypeId) : Told := ⟨some ats, appP P ats, appAx⟩

section
variable {P : Program}
theorem appPlan_cases {ts tx : TypeId} {s x : AV} {h : AHeap} {p : Plan} (e : appPlan P ts tx s x h = some p) : ∃ el es by_ z k xs, elemT P ts = some (el, es, by_, z) ∧ rowT P tx = true ∧ appXs h es x = some (k, xs) ∧
    ((s = .nilsl ∧ ((k = 0 ∧ p = .ret .nilsl) ∨ (k ≠ 0 ∧ k < 2 ^ 30 ∧ p = .new (.cells xs) fun b => .osl b 0 k es))) ∨
      ∃ b n cs, s = .osl b 0 n es ∧ h b = some (.cells cs) ∧ n + k < 2 ^ 30 ∧ n * es ≤ cs.length ∧ p = ⟨fun b' => .osl b' 0 (n + k) es, some (b, none), some (.cells (cs.take (n * es) ++ xs))⟩) := by
  unfold appPlan at e
  split at e
  · next el es by_ z he =>
    split at e
    · next hr =>
      split at e
      · next k xs hx =>
        refine ⟨el, es, by_, z, k, xs, he, hr, hx, ?_⟩
        split at e
        · split at e
          · next hk => cases e; exact .inl ⟨rfl, .inl ⟨hk, rfl⟩⟩
          · next hk =>
            split at e
            · next hk2 => cases e; exact .inl ⟨rfl, .inr ⟨hk, hk2, rfl⟩⟩
            · cases e
        · next b n es' =>
          split at e
          · next cs hb =>
            split at e
            · next hc =>
              cases e
              obtain ⟨rfl, c2, c3⟩ := hc
              exact .inr ⟨b, n, cs, rfl, hb, c2, c3, rfl⟩
            · cases e
          · cases e
        · cases e
      · cases e
    · cases e
  · cases e
theorem appPlan_cong {ts tx : TypeId} {s x : AV} {h h' : AHeap} (e : ∀ b, appAx [s, x] b → h b = h' b) : appPlan P ts tx s x h = appPlan P ts tx s x h' := by
  have e1 : ∀ es, appXs h es x = appXs h' es x := fun es => appXs_cong fun b hb => e b ⟨x, by simp, hb⟩
  unfold appPlan
  cases elemT P ts with
  | none => rfl
  | some q =>
    obtain ⟨el, es, by_, z⟩ := q
    simp only
    rw [e1]
    split
    · cases appXs h' es x with
      | none => rfl
      | some q =>
        obtain ⟨k, xs⟩ := q
        simp only
        split
        · rfl
        · next b n es' => rw [e b ⟨.osl b 0 n es', by simp, by simp [blkS]⟩]
        · rfl
    · rfl
theorem app_pf (ats : List TypeId) (c : List AV) : PF (appP P ats c) (appAx c) := by
  have hc : ∀ h p, appP P ats c h = some p → ∃ ts tx s x, ats = [ts, tx] ∧ c = [s, x] ∧ appPlan P ts tx s x h = some p := by
    intro h p e
    unfold appP at e
    split at e
    · exact ⟨_, _, _, _, rfl, rfl, e⟩
    · cases e
  constructor
  · intro h p e
    obtain ⟨ts, tx, s, x, rfl, rfl, e⟩ := hc h p e
    obtain ⟨el, es, by_, z, k, xs, _, _, _, q | ⟨b, n, cs, hs, _, _, _, rfl⟩⟩ := appPlan_cases e
    · rcases q.2 with ⟨_, rfl⟩ | ⟨_, _, rfl⟩ <;> exact .inl rfl
    · exact .inr (.inr ⟨b, _, rfl, rfl, s, by simp, by rw [hs]; simp [blkS]⟩)
  · intro h h' e
    unfold appP
    split
    · exact appPlan_cong e
    · rfl
  · intro h p e b hb
    obtain ⟨ts, tx, s, x, rfl, rfl, e⟩ := hc h p e
    obtain ⟨el, es, by_, z, k, xs, _, _, hx, q⟩ := appPlan_cases e
    obtain ⟨v, hv, hb⟩ := hb
    simp only [List.mem_cons, List.not_mem_nil, or_false] at hv
    rcases hv with rfl | rfl
    · rcases q with q | ⟨b', n, cs, hs, hh, _⟩
      · rw [q.1] at hb; simp [blkS] at hb
      · rw [hs] at hb; simp [blkS] at hb; subst hb; rw [hh]; simp
    · intro hn
      cases v <;> simp [blkS] at hb
      subst hb
      simp [appXs, hn] at hx
  · obtain ⟨N, hN⟩ : ∃ N, ∀ b, N ≤ b → b ∉ c.flatMap blkS := by
      generalize c.flatMap blkS = l
      induction l with
      | nil => exact ⟨0, fun b _ => by simp⟩
      | cons a l ih =>
        obtain ⟨N, hN⟩ := ih
        refine ⟨N + a + 1, fun b hb => ?_⟩
        simp only [List.mem_cons, not_or]
        exact ⟨by omega, hN b (by omega)⟩
    exact ⟨N, fun b hb ⟨v, hv, h1⟩ => hN b hb (List.mem_flatMap.2 ⟨v, hv, h1⟩)⟩
theorem app_tell (d : Nat) (ats : List TypeId) : TellQ P d (appTold P ats) := by
  refine ⟨app_pf ats, fun o t c h p K hd hk hp hr => ?_⟩
  obtain ⟨dst, op, ty, pos, af, g⟩ := o
  simp only [appTold] at hk hp
  unfold keyOf at hk
  split at hk
  · cases hk
  · next args ats' ho =>
    simp only [Option.some.injEq, Prod.mk.injEq] at hk
    obtain ⟨q1, q2⟩ := hk
    simp only at ho
    subst ho
    unfold appP at hp
    split at hp
    · next ts tx s x =>
      obtain ⟨el, es, by_, z, k, xs, he, hrow, hx, q⟩ := appPlan_cases hp
      have hargs : ∃ a1 a2, args.toList = [a1, a2] ∧ evalA t a1 = s ∧ evalA t a2 = x := by
        cases hl : args.toList with
        | nil => rw [hl] at q2; simp at q2
        | cons a1 l =>
          cases l with
          | nil => rw [hl] at q2; simp at q2
          | cons a2 l =>
            cases l with
            | nil => rw [hl] at q2; simp at q2; exact ⟨a1, a2, rfl, q2.1, q2.2⟩
            | cons a3 l => rw [hl] at q2; simp at q2
      obtain ⟨a1, a2, ha, hs1, hx1⟩ := hargs
      rcases q with ⟨hs, q⟩ | ⟨b, n, cs, hs, hb, hsm, hle, rfl⟩
      · -- nil
        refine .inr fun w hf a N B G => effK_sound G.disj G.rel G.repO (p := p) ?_ hr
        simp only [planA, ha, q1, he, hrow, if_true, hx1, hx, hs1, hs]
        rcases q with ⟨h1, rfl⟩ | ⟨h1, h2, rfl⟩
        · rw [if_pos h1]
        · rw [if_neg h1, if_pos h2]
      · refine .inr fun w hf a N B G => ?_
        obtain ⟨k1, k2⟩ := hr
        refine eff_append_keep G.disj G.rel G.repO rfl ha q1 he hrow (by rw [hx1]; exact hx) (by rw [hs1]; exact hs) hb (by omega) hsm ?_ ?_
        · rw [Nat.zero_add]; exact k1
        · intro b' hb'
          rw [List.drop_zero]; exact k2 b' hb'
    · cases hp
  · cases hk

/-! ### Fresh blocks to come -/
theorem newPlan_ok {ρ : Rn} {t : Fr} {h : AHeap} {op : Op} (e : newPlan P t.at op = true) : ∃ p, planA P (renF ρ t.at) h op = some p := by
  cases op <;> try (cases e; done)
  · next el =>
    obtain ⟨z, hz⟩ := Option.isSome_iff_exists.1 (show (zeroT P el).isSome = true from e)
    exact ⟨.new (.cells z) fun b => .ptr b 0, by simp only [planA, hz]⟩
  · next el x =>
    have e' : (evalA t.at x).fit = true := e
    refine ⟨_, by simp only [planA]; rw [if_pos (by rw [evalA_ren, ren_fit]; exact e')]⟩
  · next ty len parts =>
    simp only [newPlan] at e
    split at e
    · next el es by_ z he =>
      simp only [Bool.and_eq_true] at e
      obtain ⟨⟨e1, e2⟩, e3⟩ := e
      obtain ⟨cells, hc⟩ := Option.isSome_iff_exists.1 e1
      have := fillA_ren (ρ := ρ) _ hc
      rw [zcells_ren (elem_z he)] at this
      refine ⟨.new (.cells (cells.map (ren ρ))) fun b => .osl b 0 len es, ?_⟩
      simp only [planA, he, parts_ren, List.map_map] at this ⊢
      rw [this]
      simp only
      rw [if_pos ⟨by simpa using e2, by simpa using e3⟩]
    · cases e
end

/-! ### Out of sight -/
section
variable {ρ ρ' : Rn} {h h' : XH} {H1 H2 H3 : AHeap} {ns : List Nat}
theorem foldl_wf {f : Nat → XC} : ∀ (ns : List Nat) (m : Tr XC), m.wf 14 → (ns.foldl (fun m b => m.put 14 b (f b)) m).wf 14
  | [], m, hm => hm
  | b :: ns, m, hm => foldl_wf ns _ (Tr.put_wf _ _ _ _ hm)
theorem foldl_get {f : Nat → XC} : ∀ (ns : List Nat) (m : Tr XC), m.wf 14 → (∀ b ∈ ns, b < 2 ^ 14) → ∀ i, (ns.foldl (fun m b => m.put 14 b (f b)) m).get i = if i ∈ ns then some (f i) else m.get i
  | [], m, _, _, i => by simp
  | b :: ns, m, hm, hb, i => by
    rw [List.foldl_cons, foldl_get ns _ (Tr.put_wf _ _ _ _ hm) (fun x hx => hb x (by simp [hx])), Tr.get_put 14 m b i _ hm (hb b (by simp))]
    by_cases h1 : i ∈ ns
    · simp [h1]
    · by_cases h2 : i = b
      · subst h2; simp [h1]
      · simp [h1, h2]
theorem hide_get (wf : h.m.wf 14) (sm : h.n ≤ 16383) (hn : ∀ a ∈ ns, a < h.n) (i : Nat) : (hide h ns).get i = if i ∈ ns then .gone else h.get i := by
  rw [XH.get_eq, XH.get_eq]
  show (if i < h.n then ((ns.foldl (fun m b => m.put 14 b XC.gone) h.m).get i).getD .gone else .gone) = _
  rw [foldl_get (f := fun _ => XC.gone) ns h.m wf (fun b hb => by have := hn b hb; omega)]
  by_cases h1 : i ∈ ns
  · simp [h1]
  · simp [h1]
theorem unhide_get (wf : h'.m.wf 14) (sm : h'.n ≤ 16383) (hn : ∀ a ∈ ns, a < h'.n) (i : Nat) : (unhide h h' ns).get i = if i ∈ ns then h.get i else h'.get i := by
  rw [XH.get_eq (unhide h h' ns), XH.get_eq h']
  show (if i < h'.n then ((ns.foldl (fun m b => m.put 14 b (h.get b)) h'.m).get i).getD .gone else .gone) = _
  rw [foldl_get (f := fun b => h.get b) ns h'.m wf (fun b hb => by have := hn b hb; omega)]
  by_cases h1 : i ∈ ns
  · simp [h1, hn i h1]
  · simp [h1]

open Classical in
theorem hide_rep (R : HRep ρ h H1) (hl : ∀ a ∈ ns, h.get a ≠ .gone) : ∃ H2 H3, Disj H2 H3 ∧ H1 = H2.un H3 ∧ HRep { ρ with g := (hide h ns).get } (hide h ns) H2 ∧ (∀ a ∈ ns, H3 (ρ.b a) = H1 (ρ.b a)) ∧ ∀ b, H3 b ≠ none → ∃ a ∈ ns, ρ.b a = b := by
  have hn : ∀ a ∈ ns, a < h.n := fun a ha => XH.get_lt (hl a ha)
  have hg := hide_get (ns := ns) R.wf R.sm hn
  refine ⟨fun b => if ∃ a ∈ ns, ρ.b a = b then none else H1 b, fun b => if ∃ a ∈ ns, ρ.b a = b then H1 b else none, fun b => ?_, ?_, ?_, fun a ha => if_pos ⟨a, ha, rfl⟩, fun b hb => ?_⟩
  · by_cases q : ∃ a ∈ ns, ρ.b a = b
    · exact .inl (if_pos q)
    · exact .inr (if_neg q)
  · funext b
    unfold AHeap.un
    by_cases q : ∃ a ∈ ns, ρ.b a = b
    · simp only [if_pos q]
    · simp only [if_neg q]
      cases H1 b <;> rfl
  · have hgi : ∀ i, (hide h ns).get i ≠ .gone → i ∉ ns ∧ h.get i ≠ .gone := by
      intro i hi
      rw [hg] at hi
      by_cases q : i ∈ ns
      · rw [if_pos q] at hi; exact absurd rfl hi
      · rw [if_neg q] at hi; exact ⟨q, hi⟩
    have hnb : ∀ i, i ∉ ns → h.get i ≠ .gone → ¬ ∃ a ∈ ns, ρ.b a = ρ.b i := by
      rintro i hi hgn ⟨a, ha, e⟩
      exact hi (R.inj a i (hl a ha) hgn e ▸ ha)
    refine ⟨foldl_wf _ _ R.wf, R.sm, fun i => ?_, fun i => ?_, fun i j hi hj e => R.inj i j (hgi i hi).2 (hgi j hj).2 e, fun b hb => ?_, R.s0, R.gl, R.gn, fun i _ => rfl⟩
    · rw [hg]
      split
      · trivial
      · exact R.ok i
    · rw [hg]
      split
      · trivial
      · next q =>
        by_cases hgn : h.get i = .gone
        · rw [hgn]; trivial
        · simp only
          rw [if_neg (hnb i q hgn)]
          exact CR.ext (ρ := ρ) (ρ' := { ρ with g := (hide h ns).get }) rfl rfl rfl (R.cr i)
    · try simp only at hb
      split at hb
      · exact absurd rfl hb
      · next q =>
        obtain ⟨i, hi, rfl⟩ := R.ex b hb
        have hi2 : i ∉ ns := fun hx => q ⟨i, hx, rfl⟩
        exact ⟨i, by rw [hg, if_neg hi2]; exact hi, rfl⟩
  · try simp only at hb
    split at hb
    · next q => exact q
    · exact absurd rfl hb

theorem unhide_rep (R : HRep ρ h H1) (hl : ∀ a ∈ ns, h.get a ≠ .gone) (hH3 : ∀ a ∈ ns, H3 (ρ.b a) = H1 (ρ.b a)) (hex : ∀ b, H3 b ≠ none → ∃ a ∈ ns, ρ.b a = b) (ag : Agr h.n { ρ with g := (hide h ns).get } ρ') (hnn : h.n ≤ h'.n) (R' : HRep ρ' h' H2) (D : Disj H2 H3) :
    Agr h.n ρ { ρ' with g := ρ.g } ∧ HRep { ρ' with g := ρ.g } (unhide h h' ns) (H2.un H3) := by
  have hn : ∀ a ∈ ns, a < h.n := fun a ha => XH.get_lt (hl a ha)
  have hg := unhide_get (h := h) (ns := ns) R'.wf R'.sm (fun a ha => by have := hn a ha; omega)
  have hgh := hide_get (ns := ns) R.wf R.sm hn
  have ag' : Agr h.n ρ { ρ' with g := ρ.g } := ⟨fun i hi => ag i hi, ag.lo, rfl⟩
  have hb : ∀ a ∈ ns, ρ'.b a = ρ.b a := fun a ha => ((ag a (hn a ha)).1).symm
  have h3n : ∀ a ∈ ns, H3 (ρ.b a) ≠ none := fun a ha => by rw [hH3 a ha]; exact (R.cr a).some (hl a ha)
  have h2n : ∀ a ∈ ns, H2 (ρ.b a) = none := fun a ha => (D (ρ.b a)).resolve_right (h3n a ha)
  have live : ∀ i, (unhide h h' ns).get i ≠ .gone → (i ∈ ns ∧ H3 (ρ'.b i) ≠ none) ∨ (i ∉ ns ∧ h'.get i ≠ .gone ∧ H2 (ρ'.b i) ≠ none) := by
    intro i hi
    rw [hg] at hi
    by_cases q : i ∈ ns
    · exact .inl ⟨q, by rw [hb i q]; exact h3n i q⟩
    · rw [if_neg q] at hi
      exact .inr ⟨q, hi, (R'.cr i).some hi⟩
  refine ⟨ag', foldl_wf _ _ R'.wf, R'.sm, fun i => ?_, fun i => ?_, fun i j hi hj e => ?_, fun b hbn => ?_, R'.s0, R'.gl, R'.gn, fun i hi => ?_⟩
  · rw [hg]
    split
    · exact XC.ok_mono hnn _ (R.ok i)
    · exact R'.ok i
  · rw [hg]
    split
    · next q =>
      have c := (R.cr i).agr ag' (hn i q) (R.ok i)
      show CR _ i (h.get i) ((H2.un H3) (ρ'.b i))
      rw [hb i q, show (H2.un H3) (ρ.b i) = H3 (ρ.b i) from by unfold AHeap.un; rw [h2n i q], hH3 i q]
      exact c
    · next q =>
      by_cases hgn : h'.get i = .gone
      · rw [hgn]; trivial
      · obtain ⟨c, hc⟩ := Option.ne_none_iff_exists'.1 ((R'.cr i).some hgn)
        show CR _ i (h'.get i) ((H2.un H3) (ρ'.b i))
        rw [AHeap.un_some hc, ← hc]
        exact CR.ext (ρ := ρ') (ρ' := { ρ' with g := ρ.g }) rfl rfl rfl (R'.cr i)
  · simp only at e
    rcases live i hi with ⟨q1, q2⟩ | ⟨q1, q2, q3⟩ <;> rcases live j hj with ⟨r1, r2⟩ | ⟨r1, r2, r3⟩
    · rw [hb i q1, hb j r1] at e
      exact R.inj i j (hl i q1) (hl j r1) e
    · rw [e] at q2
      rcases D (ρ'.b j) with d | d
      · exact absurd d r3
      · exact absurd d q2
    · rw [← e] at r2
      rcases D (ρ'.b i) with d | d
      · exact absurd d q3
      · exact absurd d r2
    · exact R'.inj i j q2 r2 e
  · by_cases q : H2 b = none
    · have h3 : H3 b ≠ none := by
        intro q3
        exact hbn (by unfold AHeap.un; rw [q]; exact q3)
      obtain ⟨a, ha, rfl⟩ := hex b h3
      exact ⟨a, by rw [hg, if_pos ha]; exact hl a ha, hb a ha⟩
    · obtain ⟨i, hi, rfl⟩ := R'.ex b q
      have hi2 : i ∉ ns := fun hx => q (by rw [hb i hx]; exact h2n i hx)
      exact ⟨i, by rw [hg, if_neg hi2]; exact hi, rfl⟩
  · have hlo : ρ'.lo = ρ.lo := ag.lo.symm
    simp only at hi
    rw [hlo] at hi
    rw [hg]
    split
    · exact R.gg i hi
    · next q =>
      have := R'.gg i (by rw [hlo]; exact hi)
      rw [this, ← ag.g]
      show (hide h ns).get i = _
      rw [hgh, if_neg q]
      exact R.gg i hi
end
end Go.AH
