/-
  The evaluator is sound, as far as its regions that draw are.
-/
import Derived.Test.YtkdhgablioljnaaAhXg
set_option linter.unusedSimpArgs false
set_option linter.unusedVariables false
set_option linter.unusedSectionVars false
namespace Go.AH
open Go

section
variable {P : Program} {run : XRun} {L : List Nat × List Nat}

/-- slices.Delete, at rows of numbers. -/
def DelC (P : Program) (f : FuncId) : Prop := ∀ (h : AHeap) (b off n i j : Nat) (cs : List AV), h b = some (.cells cs) → off + n ≤ cs.length → (∀ x ∈ (cs.drop off).take n, isI64 x = true) → i ≤ j → j ≤ n →
  ACalls P f [.osl b off n 1, .int .i64 i, .int .i64 j] h fun r h' => r = .osl b off (n - (j - i)) 1 ∧ h' = h.upd b (.cells (splice cs off (delL ((cs.drop off).take n) i j)))
theorem delL_length {cs : List AV} {i j : Nat} (hij : i ≤ j) (hj : j ≤ cs.length) : (delL cs i j).length = cs.length := by simp [delL]; omega
theorem delL_ren {ρ : Rn} {cs : List AV} {i j : Nat} : (delL cs i j).map (ren ρ) = delL (cs.map (ren ρ)) i j := by simp [delL, List.map_take, List.map_drop, ren]
theorem isI64_ren {ρ : Rn} {x : AV} (h : isI64 x = true) : isI64 (ren ρ x) = true := by
  unfold isI64 at h
  split at h
  · simp [ren, isI64]
  · cases h
theorem xdel_ok {ρ : Rn} {h : XH} {H : AHeap} {K : KV} {res : AV × XH} {f : FuncId} (hD : DelC P f) {args : List AV} (R : HRep ρ h H) (e : xdel args h K = some res) : ACalls P f (args.map (ren ρ)) H (KP ρ h.n K res) := by
  unfold xdel at e
  split at e
  · next b off n i j =>
    obtain ⟨m, t, hg, e1⟩ := cell_some e
    obtain ⟨e2, e3⟩ := chk_some e1
    simp only [Bool.and_eq_true] at e2
    obtain ⟨⟨⟨c1, c2⟩, c3⟩, c4⟩ := e2
    have c1 := Nat.ble_eq.mp c1
    have c2 := Nat.ble_eq.mp c2
    have c3 : off + n ≤ m := Nat.ble_eq.mp c3
    obtain ⟨hH, hm, hwf, hbd⟩ := cells_at R hg
    have hne : h.get b ≠ .gone := by rw [hg]; simp
    obtain ⟨hlo, _, e4⟩ := set_some e3
    have ht : ((t.take m 0).drop off).take n = t.take n off := by rw [Tr.take_drop, Nat.zero_add, Tr.take_take _ _ _ _ (by omega)]
    have hd : ((ρ.p b ++ (t.take m 0).map (ren ρ)).drop (off + ρ.s b)).take n = (t.take n off).map (ren ρ) := by
      rw [drop_pre (s := ρ.s b) (pre := ρ.p b) rfl, ← List.map_drop, ← List.map_take, ht]
    have hl : (delL (t.take n off) i j).length = n := by rw [delL_length c1 (by rw [Tr.take_length]; exact c2), Tr.take_length]
    have c := hD H (ρ.b b) (off + ρ.s b) n i j _ hH (by simp [Tr.take_length, Rn.s]; omega) (by
      rw [hd]
      intro x hx
      obtain ⟨y, hy, rfl⟩ := List.mem_map.1 hx
      exact isI64_ren (List.all_eq_true.1 c4 y hy)) c1 c2
    refine ACalls.mono (show ACalls P f [.osl (ρ.b b) (off + ρ.s b) n 1, .int .i64 i, .int .i64 j] H _ from c) ?_
    rintro r H' ⟨rfl, rfl⟩
    rw [hd, ← delL_ren, splice_pfx (s := ρ.s b) (pre := ρ.p b) rfl, splice_ren]
    have tk : (t.putL 11 (delL (t.take n off) i j) off).take m 0 = splice (t.take m 0) off (delL (t.take n off) i j) := Tr.putL_take hwf (by omega) (by omega)
    refine KP.set (r := .osl b off (n - (j - i)) 1) (c := .cells m (t.putL 11 (delL (t.take n off) i j) off)) R hlo hne (by simp) ⟨hm, (Tr.putL_spec 11 _ t off hwf (by omega)).1, ?_⟩ ?_ e4
    · rw [tk, bdL_iff]
      rw [bdL_iff] at hbd
      intro a ha
      unfold splice at ha
      have hsub : ∀ x ∈ t.take n off, x.bd h.n = true := fun x hx => hbd x (by rw [← ht] at hx; exact List.mem_of_mem_drop (List.mem_of_mem_take hx))
      rcases List.mem_append.1 ha with q | q
      · rcases List.mem_append.1 q with q | q
        · exact hbd a (List.mem_of_mem_take q)
        · unfold delL at q
          rcases List.mem_append.1 q with q | q
          · rcases List.mem_append.1 q with q | q
            · exact hsub a (List.mem_of_mem_take q)
            · exact hsub a (List.mem_of_mem_drop q)
          · rw [(List.mem_replicate.1 q).2]; simp [AV.bd]
      · exact hbd a (List.mem_of_mem_drop q)
    · show some _ = some _
      rw [tk]
  · cases e


theorem recOf_none {r : Loop} (h1 : r.state = .ready) (h2 : r.pending = none) : recOf r none = r := by
  cases r; simp only at h1 h2; subst h1; subst h2; rfl

theorem xcall_ok (hR : RunOk P run) (hDl : ∀ f ∈ L.2, DelC P f) (hL : ∀ f ∈ L.1, ∀ (args : Array Value) (w : World), (callFunc f args).run P w = .ok (.enter f args) w) : CallOk P (xcall P L run) := by
  intro ρ h H fv args K res e R
  unfold xcall at e
  split at e
  · next f first caps =>
    split at e
    · next hc =>
      have q := xdel_ok (hDl f (by simpa using hc)) R e
      rw [show ren ρ (.fn (.func f) first caps) = .fn (.func f) (first.map (ren ρ)) (caps.map (ren ρ)) from by simp only [ren, renL_eq]]
      show ACalls P f (first.map (ren ρ) ++ args.map (ren ρ) ++ caps.map (ren ρ)) H _
      rw [show first.map (ren ρ) ++ args.map (ren ρ) ++ caps.map (ren ρ) = (first ++ args ++ caps).map (ren ρ) from by simp]
      exact q
    split at e
    · next fn hc hfn =>
      split at e
      · next c hb =>
        obtain ⟨e1, e2⟩ := chk_some e
        simp only [Bool.and_eq_true] at e1
        have hok := e1.1
        unfold fnOk at hok
        rw [hb] at hok
        simp only [Bool.and_eq_true] at hok
        obtain ⟨t, e3, F, q⟩ := xentry_some _ _ _ e2 (FrOk.nil _)
        have hlen : (first ++ args ++ caps).length ≤ fn.ntmps := Nat.ble_eq.mp e1.2
        have hargs : first.map (ren ρ) ++ args.map (ren ρ) ++ caps.map (ren ρ) = (first ++ args ++ caps).map (ren ρ) := by simp
        have hren : ren ρ (.fn (.func f) first caps) = .fn (.func f) (first.map (ren ρ)) (caps.map (ren ρ)) := by simp only [ren, renL_eq]
        rw [hren]
        show ACalls P f (first.map (ren ρ) ++ args.map (ren ρ) ++ caps.map (ren ρ)) H _
        rw [hargs]
        refine acalls_of_AWP hfn hb (hL f (by simpa using hc)) (by rw [List.length_map]; exact hlen) ?_
        have he : entryF ((first ++ args ++ caps).map (ren ρ)) = renF ρ t.at := by
          funext j
          rw [q]
          unfold entryF
          by_cases hj : j < (first ++ args ++ caps).length
          · rw [if_pos (by omega), Nat.sub_zero]
          · rw [if_neg (by omega), List.getD_eq_getElem?_getD, List.getElem?_eq_none (by rw [List.length_map]; omega)]; rfl
        rw [he]
        refine hR _ _ _ _ _ _ _ ρ H _ none e3 hok.1 (fun _ => rfl) R F ?_
        intro e' ρ' t' h' H' ag hn R' F' eK
        obtain ⟨e4, e5⟩ := chk_some eK
        obtain ⟨r, hr, e6⟩ := optK_some e5
        have hres := resultsA_ren R' hr
        cases e' <;> first | cases e4 | skip
        · refine ⟨by simp, ?_⟩
          simp only [retQ, hres]
          exact finA_self ⟨ρ', r, h', ag, hn, R', rfl, e6⟩
        · refine ⟨by simp, ?_⟩
          simp only [retQ, hres]
          exact finA_self ⟨ρ', r, h', ag, hn, R', rfl, e6⟩
      · cases e
    · cases e
  · next l first caps =>
    split at e
    · next ps as b N t hl =>
      obtain ⟨hlo, hlt, e1⟩ := set_some e
      have hok := R.ok l
      have hcr := R.cr l
      rw [hl] at hok hcr
      obtain ⟨hp0, ⟨l1, l2, l3, l4, l5, l6⟩, hfr, hC⟩ := hcr
      have hne : h.get l ≠ .gone := by rw [hl]; simp
      obtain ⟨t1, e2, F1, q1⟩ := xputs_some _ _ _ e1 (show FrOk h.n t from hok)
      obtain ⟨e3, e4⟩ := chk_some e2
      simp only [Bool.and_eq_true] at e3
      obtain ⟨⟨⟨c1, c2⟩, c3⟩, c4⟩ := e3
      rw [recOf_none l1 l2] at hC
      have hH : H = (H.del (ρ.b l)).upd (ρ.b l) (.loop (ρ.r l).1 (ρ.r l).2) := by
        funext i
        by_cases qi : i = ρ.b l
        · subst qi; rw [AHeap.upd_same]; exact hC
        · rw [AHeap.upd_ne qi, AHeap.del_ne qi]
      have R1 := R.del hlo hne
      show AYield P (ρ.b l) (args.map (ren ρ)) H _
      rw [hH]
      refine ayield_of_AWP (N := N) AHeap.del_same l1 l3 (by rw [l4]; intro p hp; exact Nat.blt_eq.mp (List.all_eq_true.1 c2 p hp)) (by rw [l4, List.length_map]; simpa using c1) ?_
      rw [l4, l5, l6, hfr, ← q1 ρ]
      refine hR N true as t1 _ _ res ρ (H.del (ρ.b l)) _ (some (ρ.b l)) e4 c3 (by simp) R1 F1 ?_
      intro e' ρ2 t2 h2 H2 ag2 hn2 R2 F2 eK
      cases e' <;> first | cases eK | skip
      refine ⟨by simp, ?_⟩
      simp only [thenA_normal]
      refine hR N true b t2 h2 _ res ρ2 H2 _ (some (ρ.b l)) eK c4 (by simp) R2 F2 ?_
      intro e2' ρ3 t3 h3 H3 ag3 hn3 R3 F3 eK3
      cases hj : jumpOf e2' with
      | none => simp only [hj] at eK3; cases eK3
      | some j =>
        simp only [hj] at eK3
        obtain ⟨hlo3, hlt3, e6⟩ := set_some eK3
        refine ⟨fun q hq => (by rw [hq] at hj; cases hj), ?_⟩
        simp only
        refine ⟨H3, Drop.refl _, fun hn => ?_⟩
        have ag : Agr h.n ρ ρ3 := ag2.trans ag3 hn2
        obtain ⟨a1, a2, a3⟩ := ag l hlt
        have hg3 : h3.get l = .gone := by
          by_cases hg : h3.get l = .gone
          · exact hg
          · have := (R3.cr l).some hg
            rw [← a1] at this
            exact absurd hn this
        have hn3' : h.n ≤ h3.n := Nat.le_trans hn2 hn3
        have R4 := R3.back hlo3 hlt3 hg3 (by rw [← a1]; exact hn) (c := .loop ps as b N t j) (C := .loop (recOf (ρ.r l).1 j) (ρ.r l).2) (by simp) ⟨hok.1, fun i => bd_mono hn3' _ (hok.2 i)⟩
          ⟨by rw [← a2]; exact hp0, by rw [← a3]; exact ⟨l1, l2, l3, l4, l5, l6⟩, by rw [← a3, hfr]; exact renF_agr (t := t.at) ag hok.2, by rw [← a3]⟩
        rw [← a1] at R4
        rw [← hfr]
        exact ⟨ρ3, .bool j.isNone, { m := h3.m.put 14 l (.loop ps as b N t j), n := h3.n, lo := h3.lo, sh := h3.sh }, ag, hn3', R4, by simp [ren], e6⟩
    · cases e
  · cases e

theorem xrun_ok (hD : DrawOk P) (hDl : ∀ f ∈ L.2, DelC P f) (hL : ∀ f ∈ L.1, ∀ (args : Array Value) (w : World), (callFunc f args).run P w = .ok (.enter f args) w) : ∀ m, ∀ k, k ≤ m → RunOk P (xrun P L k)
  | 0, k, hk => by
    have : k = 0 := by omega
    subst this
    intro N inr c t h K res ρ H Q ro e
    cases e
  | m + 1, k, hk => by
    by_cases hkm : k ≤ m
    · exact xrun_ok hD hDl hL m k hkm
    have : k = m + 1 := by omega
    subst this
    have IH := xrun_ok hD hDl hL m
    have IHm := IH m (Nat.le_refl m)
    have C := xcall_ok IHm hDl hL
    intro N inr c t h K res ρ H Q ro e hk hro R F hQ
    have hQ' : ∀ {ρ1 : Rn} {h1 : XH}, Agr h.n ρ ρ1 → h.n ≤ h1.n → ∀ e ρ' t' h' H', Agr h1.n ρ1 ρ' → h1.n ≤ h'.n → HRep ρ' h' H' → FrOk h'.n t' → K e t' h' = some res → (∀ l, e ≠ .goto l) ∧ Q e (renF ρ' t'.at) H' :=
      fun ag hn e ρ' t' h' H' ag' hn' R' F' eK => hQ e ρ' t' h' H' (ag.trans ag' hn) (Nat.le_trans hn hn') R' F' eK
    change xstep P L (xrun P L m) N inr c t h K = some res at e
    cases c with
    | skip => exact awp_sound .skip Q _ _ rfl (hQ _ _ _ _ _ (.refl _ _) (Nat.le_refl _) R F e).2
    | label l => exact awp_sound (.label l) Q _ _ rfl (hQ _ _ _ _ _ (.refl _ _) (Nat.le_refl _) R F e).2
    | exit id => exact awp_sound (.exit id) Q _ _ rfl (hQ _ _ _ _ _ (.refl _ _) (Nat.le_refl _) R F e).2
    | ret => exact awp_sound .ret Q _ _ rfl (hQ _ _ _ _ _ (.refl _ _) (Nat.le_refl _) R F e).2
    | goto l => cases e
    | refuse why => cases e
    | region id ops draw =>
      cases draw with
      | false =>
        simp only [xstep] at e
        split at e
        · next l hl =>
          intro hf B w a G
          refine wpIn_region (xops_sound C hk ops.toList (List.range ops.size) l ρ t h H a w (range_map ops) hl G R F e ?_)
          rintro a' w' ⟨ρ', t', h', H', ag, hn, R', F', eK, G', s⟩
          exact ⟨_, _, (hQ _ _ _ _ _ ag hn R' F' eK).2, G', s⟩
        · cases e
      | true =>
        simp only [xstep] at e
        split at e
        · next hst =>
          split at e
          · next l hl => exact hD.2 _ C N id ops l t h _ res ρ H Q ro hst hl e hk R F fun ρ' t' h' H' ag hn R' F' eK => (hQ _ _ _ _ _ ag hn R' F' eK).2
          · cases e
        · split at e
          · next l hl => exact hD.1 _ C N id ops l t h _ res ρ H Q ro hl e hk R F fun ρ' t' h' H' ag hn R' F' eK => (hQ _ _ _ _ _ ag hn R' F' eK).2
          · cases e
    | seq x y =>
      simp only [codeOk, Bool.and_eq_true] at hk
      simp only [xstep] at e
      refine AWP.seq (IHm _ _ _ _ _ _ _ _ _ _ _ e hk.1 hro R F ?_)
      intro e' ρ' t' h' H' ag hn R' F' eK
      cases e' with
      | normal => exact ⟨by simp, IHm _ _ _ _ _ _ _ _ _ _ _ eK hk.2 hro R' F' (hQ' ag hn)⟩
      | exit id => exact hQ _ _ _ _ _ ag hn R' F' eK
      | goto l => exact hQ _ _ _ _ _ ag hn R' F' eK
      | ret => exact hQ _ _ _ _ _ ag hn R' F' eK
      | panic ch => exact hQ _ _ _ _ _ ag hn R' F' eK
      | outgrown => exact hQ _ _ _ _ _ ag hn R' F' eK
    | cond c x y =>
      simp only [codeOk, Bool.and_eq_true] at hk
      simp only [xstep, ev_of] at e
      split at e
      · next b hb =>
        refine AWP.cond (b := b) (by rw [evalA_ren, hb]; simp [ren]) (fun q => ?_) (fun q => ?_)
        · subst q; exact IHm _ _ _ _ _ _ _ _ _ _ _ e hk.1 hro R F hQ
        · subst q; exact IHm _ _ _ _ _ _ _ _ _ _ _ e hk.2 hro R F hQ
      · cases e
    | block id c =>
      simp only [codeOk] at hk
      simp only [xstep] at e
      refine AWP.block (IHm _ _ _ _ _ _ _ _ _ _ _ e hk hro R F ?_)
      intro e' ρ' t' h' H' ag hn R' F' eK
      cases e' with
      | exit i =>
        simp only at eK
        refine ⟨by simp, ?_⟩
        simp only [blockA]
        split at eK
        · next hi => rw [if_pos (by simpa using hi)]; exact (hQ _ _ _ _ _ ag hn R' F' eK).2
        · next hi => rw [if_neg (by intro q; subst q; simp at hi)]; exact (hQ _ _ _ _ _ ag hn R' F' eK).2
      | normal => exact hQ _ _ _ _ _ ag hn R' F' eK
      | goto l => exact hQ _ _ _ _ _ ag hn R' F' eK
      | ret => exact hQ _ _ _ _ _ ag hn R' F' eK
      | panic ch => exact hQ _ _ _ _ _ ag hn R' F' eK
      | outgrown => exact hQ _ _ _ _ _ ag hn R' F' eK
    | scope c =>
      simp only [codeOk] at hk
      simp only [xstep] at e
      exact AWP.scope (IHm _ _ _ _ _ _ _ _ _ _ _ e hk hro R F fun e' ρ' t' h' H' ag hn R' F' eK => ⟨(hQ _ _ _ _ _ ag hn R' F' eK).1, hQ _ _ _ _ _ ag hn R' F' eK⟩)
    | loop b =>
      have hkb := hk
      simp only [codeOk] at hkb
      refine AWP.loop (fun k f H1 => k ≤ m + 1 ∧ ∃ ρ1 t1 h1, f = renF ρ1 t1.at ∧ Agr h.n ρ ρ1 ∧ h.n ≤ h1.n ∧ HRep ρ1 h1 H1 ∧ FrOk h1.n t1 ∧ xrun P L k N inr (.loop b) t1 h1 K = some res) (m + 1)
        ⟨Nat.le_refl _, ρ, t, h, rfl, .refl _ _, Nat.le_refl _, R, F, e⟩ ?_
      rintro k f H1 ⟨hkm, ρ1, t1, h1, rfl, ag1, hn1, R1, F1, e1⟩
      cases k with
      | zero => cases e1
      | succ k =>
        change xstep P L (xrun P L k) N inr (.loop b) t1 h1 K = some res at e1
        simp only [xstep] at e1
        refine IH k (by omega) _ _ _ _ _ _ _ _ _ _ ro e1 hkb hro R1 F1 ?_
        intro e' ρ2 t2 h2 H2 ag2 hn2 R2 F2 eK
        cases e' with
        | normal => exact ⟨by simp, k, by omega, by omega, ρ2, t2, h2, rfl, ag1.trans ag2 hn1, Nat.le_trans hn1 hn2, R2, F2, eK⟩
        | exit id => exact hQ' ag1 hn1 _ _ _ _ _ ag2 hn2 R2 F2 eK
        | goto l => exact hQ' ag1 hn1 _ _ _ _ _ ag2 hn2 R2 F2 eK
        | ret => exact hQ' ag1 hn1 _ _ _ _ _ ag2 hn2 R2 F2 eK
        | panic ch => exact hQ' ag1 hn1 _ _ _ _ _ ag2 hn2 R2 F2 eK
        | outgrown => exact hQ' ag1 hn1 _ _ _ _ _ ag2 hn2 R2 F2 eK
    | rangeFunc g ps as b =>
      simp only [codeOk, Bool.and_eq_true] at hk
      simp only [xstep] at e
      split at e
      · next f first caps hg =>
        have hro' := hro rfl
        subst hro'
        obtain ⟨hsm, e1⟩ := new_some e
        have hgb : (AV.fn (.func f) first caps).bd h.n = true := by
          rw [← hg]
          cases g with
          | tmp i => exact F.2 i
          | const v => exact bd_cval v
          | global g => simp [evalA, AV.bd]
          | func f => simp [evalA, AV.bd, AV.bdL]
        have hren : ren ρ (.fn (.func f) first caps) = .fn (.func f) (first.map (ren ρ)) (caps.map (ren ρ)) := by simp only [ren, renL_eq]
        refine awp_rangeF (f := f) (first := first.map (ren ρ)) (caps := caps.map (ren ρ)) (by rw [evalA_ren, hg, hren]) ?_
        intro l r hl h1 h2 h3 h4 h5 h6
        obtain ⟨ρ', ag, q1, q2, q3, R'⟩ := R.new hsm hl (c := .loop ps as b N t none) (C := .loop r (renF ρ t.at)) (by simp) ⟨F.1, fun i => bd_mono (Nat.le_succ _) _ (F.2 i)⟩ (r, renF ρ t.at)
          ⟨by simp, by simpa using ⟨h1, h2, h3, h4, h5, h6⟩, by
            simp only [if_true]
            exact renF_agr (n := h.n) (t := t.at) Agr.new F.2, by simp [recOf_none h1 h2]⟩
        have c := C ρ' _ _ (.fn (.func f) first caps) [.fn (.yield h.n) [] []] _ res e1 R'
        have e2 : ([.fn (.yield h.n) [] []] : List AV).map (ren ρ') = [.fn (.yield l) [] []] := by simp [ren, q1]
        rw [← ren_agr ag _ hgb, hren, e2] at c
        refine ACalls.mono (show ACalls P f (first.map (ren ρ) ++ [.fn (.yield l) [] []] ++ caps.map (ren ρ)) _ _ from c) ?_
        rintro r' H' ⟨ρ2, rv, h', ag2, hn2, R2, rfl, eK⟩
        simp only at eK
        split at eK
        · next ps' as' b' N' t' pend hg2 =>
          obtain ⟨hlo2, hlt2, e3⟩ := set_some eK
          have hcr := R2.cr h.n
          rw [hg2] at hcr
          obtain ⟨a1, a2, a3⟩ := ag2 h.n (Nat.lt_succ_self _)
          rw [q1] at a1
          rw [q3] at a3
          have hC := hcr.2.2.2
          rw [← a1, ← a3] at hC
          have hne2 : h'.get h.n ≠ .gone := by rw [hg2]; simp
          have R3 := R2.del hlo2 hne2
          rw [← a1] at R3
          have hnn : h.n ≤ h'.n := Nat.le_of_succ_le hn2
          have agg : Agr h.n ρ ρ2 := ag.trans ag2 (Nat.le_succ _)
          have hfr : renF ρ t.at = renF ρ2 t.at := renF_agr (t := t.at) agg F.2
          refine ⟨H'.del l, pend, ?_, AHeap.del_same, ?_⟩
          · funext i
            by_cases qi : i = l
            · subst qi; rw [AHeap.upd_same]; exact hC
            · rw [AHeap.upd_ne qi, AHeap.del_ne qi]
          · split at e3
            · simp only [afterA]; rw [hfr]; exact (hQ _ ρ2 t { m := h'.m.put 14 h.n .gone, n := h'.n, lo := h'.lo, sh := h'.sh } (H'.del l) agg hnn R3 (F.mono hnn) e3).2
            · simp only [afterA]; rw [hfr]; exact (hQ _ ρ2 t { m := h'.m.put 14 h.n .gone, n := h'.n, lo := h'.lo, sh := h'.sh } (H'.del l) agg hnn R3 (F.mono hnn) e3).2
            · simp only [afterA]; rw [hfr]; exact (hQ _ ρ2 t { m := h'.m.put 14 h.n .gone, n := h'.n, lo := h'.lo, sh := h'.sh } (H'.del l) agg hnn R3 (F.mono hnn) e3).2
            · cases e3
        · cases eK
      · cases e
end
end Go.AH
