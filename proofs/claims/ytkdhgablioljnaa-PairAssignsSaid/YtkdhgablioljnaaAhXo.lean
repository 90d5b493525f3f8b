/-
  The evaluator's operations are sound.
-/
import Derived.Test.YtkdhgablioljnaaAhXh
set_option linter.unusedSimpArgs false
set_option linter.unusedVariables false
set_option linter.unusedSectionVars false
namespace Go.AH
open Go

section
variable {P : Program} {ρ : Rn} {t : AF} {h : XH} {H : AHeap} {res : AV × XH} {K : KV} {n : Nat}

/-- What a step of the evaluator leaves, with blocks for names. -/
def KP (ρ : Rn) (n : Nat) (K : KV) (res : AV × XH) : AV → AHeap → Prop := fun r' H' => ∃ ρ' r h', Agr n ρ ρ' ∧ n ≤ h'.n ∧ HRep ρ' h' H' ∧ r' = ren ρ' r ∧ K r h' = some res

theorem chk_some {b : Bool} {r : R} (e : chk b r = some res) : b = true ∧ r = some res := by
  cases b
  · cases e
  · exact ⟨rfl, e⟩
theorem new_some {c : XC} {K : Nat → XH → R} (e : h.new c K = some res) : h.n < 16383 ∧ K h.n { m := h.m.put 14 h.n c, n := Nat.add h.n 1, lo := h.lo, sh := h.sh } = some res := by
  obtain ⟨e1, e2⟩ := chk_some e
  exact ⟨Nat.blt_eq.mp e1, e2⟩
theorem set_some {b : Nat} {c : XC} {K : XH → R} (e : h.set b c K = some res) : h.lo ≤ b ∧ b < h.n ∧ K { m := h.m.put 14 b c, n := h.n, lo := h.lo, sh := h.sh } = some res := by
  obtain ⟨e1, e2⟩ := chk_some e
  simp only [Bool.and_eq_true] at e1
  exact ⟨Nat.ble_eq.mp e1.1, Nat.blt_eq.mp e1.2, e2⟩
theorem cell_some {b : Nat} {K : Nat → Tr AV → R} (e : h.cell b K = some res) : ∃ n c, h.get b = .cells n c ∧ K n c = some res := by
  unfold XH.cell at e
  split at e
  · next n c hg => exact ⟨n, c, hg, e⟩
  · cases e
theorem optK_some {v : Option AV} {K : AV → R} (e : optK v K = some res) : ∃ a, v = some a ∧ K a = some res := by
  cases v
  · cases e
  · exact ⟨_, rfl, e⟩
theorem intK_some {v : AV} {K : IntKind → Int → R} (e : intK v K = some res) : ∃ k n, v = .int k n ∧ K k n = some res := by
  cases v <;> first | cases e | exact ⟨_, _, rfl, e⟩

theorem KP.here (R : HRep ρ h H) {r : AV} (e : K r h = some res) : KP ρ h.n K res (ren ρ r) H := ⟨ρ, r, h, .refl _ _, Nat.le_refl _, R, rfl, e⟩

theorem KP.set (R : HRep ρ h H) {i : Nat} (hlo : h.lo ≤ i) (hi : h.get i ≠ .gone) {c : XC} {C : Chunk} {r : AV} (hcg : c ≠ .gone) (hc : c.ok h.n) (hC : CR ρ i c (some C)) (e : K r { m := h.m.put 14 i c, n := h.n, lo := h.lo, sh := h.sh } = some res) :
    KP ρ h.n K res (ren ρ r) (H.upd (ρ.b i) C) := ⟨ρ, r, { m := h.m.put 14 i c, n := h.n, lo := h.lo, sh := h.sh }, .refl _ _, Nat.le_refl h.n, R.set hlo hi hcg hc hC, rfl, e⟩
theorem evalL_ren (xs : List Operand) : xs.map (evalA (renF ρ t)) = (xs.map (evalA t)).map (ren ρ) := by
  rw [List.map_map]
  apply List.map_congr_left
  intro x _
  simp

theorem cells_at (R : HRep ρ h H) {b m : Nat} {c : Tr AV} (hg : h.get b = .cells m c) : H (ρ.b b) = some (.cells (ρ.p b ++ (c.take m 0).map (ren ρ))) ∧ m ≤ 2048 ∧ c.wf 11 ∧ AV.bdL h.n (c.take m 0) = true := by
  have h1 := R.cr b
  have h2 := R.ok b
  rw [hg] at h1 h2
  exact ⟨h1, h2⟩
theorem splice_pfx {pre l vs : List AV} {off s : Nat} (hp : pre.length = s) : splice (pre ++ l) (off + s) vs = pre ++ splice l off vs := by
  unfold splice
  rw [show off + s + vs.length = (off + vs.length) + s from by omega, drop_pre hp, List.take_append, List.take_of_length_le (by omega), hp, Nat.add_sub_cancel, List.append_assoc, List.append_assoc, List.append_assoc]

theorem xnew_sound (R : HRep ρ h H) {cs : List AV} {mk mkr : Nat → AV} (hmk : ∀ ρ' : Rn, ρ'.s h.n = 0 → ren ρ' (mk h.n) = mkr (ρ'.b h.n)) (e : xnew h cs mk K = some res) : ∀ b, H b = none → KP ρ h.n K res (mkr b) (H.upd b (.cells (cs.map (ren ρ)))) := by
  intro b hb
  obtain ⟨e1, e2⟩ := chk_some e
  simp only [Bool.and_eq_true] at e1
  have hl := Nat.blt_eq.mp e1.1
  have hbd := e1.2
  obtain ⟨e3, e4⟩ := new_some e2
  obtain ⟨o1, o2⟩ := ofL_spec (l := cs) (by omega)
  obtain ⟨ρ', ag, q1, q2, q3, R'⟩ := R.new e3 hb (c := .cells cs.length (ofL cs)) (C := .cells (cs.map (ren ρ))) (by simp) ⟨by omega, o1, by rw [o2]; exact bdL_mono (Nat.le_succ _) _ hbd⟩ (ρ.r 0)
    (CR.cells0 (by simp) (by
      rw [o2, List.nil_append]
      rw [map_agr (n := h.n) (ρ := ρ) Agr.new hbd]))
  refine ⟨ρ', mk h.n, _, ag, by show h.n ≤ h.n + 1; omega, R', ?_, e4⟩
  rw [hmk ρ' q2, q1]

theorem zcells_ren {z : List AV} (hz : z.map (ren ρ) = z) (k : Nat) : (zcells z k).map (ren ρ) = zcells z k := by
  unfold zcells
  rw [List.map_map]
  apply List.map_congr_left
  intro i _
  simp only [Function.comp_apply, List.getD_eq_getElem?_getD]
  have := congrArg (fun l => l[i % z.length]?) hz
  simp only [List.getElem?_map] at this
  cases hq : z[i % z.length]? with
  | none => simp [ren]
  | some a => rw [hq] at this; simpa using this

theorem elem_z {ty e : TypeId} {es by_ : Nat} {z : List AV} (he : elemT P ty = some (e, es, by_, z)) : z.map (ren ρ) = z := zeroT_ren (elemT_spec he).2.2.2.1

theorem appXs_ren {es : Nat} {x : AV} {k : Nat} {xs : List AV} (R : HRep ρ h H) (e : appXs h.a es x = some (k, xs)) : appXs H es (ren ρ x) = some (k, xs.map (ren ρ)) := by
  unfold appXs at e
  split at e
  · cases e; rfl
  · split at e
    · next hc => cases e; simp only [ren, renL_eq, appXs, List.length_map, if_pos hc]
    · cases e
  · next b off m es' =>
    split at e
    · next cs hb =>
      obtain ⟨pre, hp, hH⟩ := R.hr.cells b cs hb
      split at e
      · next hc =>
        cases e
        simp only [ren, appXs, hH, drop_pre hp, ← List.map_drop, List.length_map, if_pos hc, List.map_take]
      · cases e
    · cases e
  · next s =>
    split at e
    · next hc => cases e; simp [ren, appXs, hc]
    · cases e
  · cases e

theorem minA_ren {mx : Bool} : ∀ (l : List AV) {a r : AV}, minA mx a l = some r → minA mx (ren ρ a) (l.map (ren ρ)) = some (ren ρ r)
  | [], a, r, e => by simp only [minA, Option.some.injEq] at e; subst e; simp [minA]
  | b :: l, a, r, e => by
    cases a <;> first | (simp only [minA] at e; cases e; done) | skip
    cases b <;> first | (simp only [minA] at e; cases e; done) | skip
    simp only [minA] at e
    have := minA_ren l e
    simpa [ren, minA] using this

/-- The owner forgets the tail of some rows. -/
def SubT (H H2 : AHeap) : Prop := ∀ b, H2 b = H b ∨ ∃ cs m, H b = some (.cells cs) ∧ H2 b = some (.cells (cs.take m))
theorem SubT.refl (H : AHeap) : SubT H H := fun _ => .inl rfl
theorem Agr.newP {n b : Nat} {pre : List AV} {r : Loop × AF} {ρ : Rn} : Agr n ρ { b := fun i => if i = n then b else ρ.b i, p := fun i => if i = n then pre else ρ.p i, r := fun i => if i = n then r else ρ.r i, lo := ρ.lo, g := ρ.g } :=
  ⟨fun i hi => by
    have : i ≠ n := by omega
    simp [this], rfl, rfl⟩
theorem newS_some {c : XC} {K : Nat → XH → R} (e : h.newS c K = some res) : h.n < 16383 ∧ K h.n { m := h.m.put 14 h.n c, n := Nat.add h.n 1, lo := h.lo, sh := h.n :: h.sh } = some res := by
  obtain ⟨e1, e2⟩ := chk_some e
  exact ⟨Nat.blt_eq.mp e1, e2⟩
/-- An append at an offset: the owner forgets what is behind; the new block may begin elsewhere. -/
theorem append_off {ts tx : TypeId} {b off m es' es k : Nat} {x : AV} {xs : List AV} {el : TypeId} {by_ : Nat} {z : List AV} {mm : Nat} {c : Tr AV} {tt : Bool} (R : HRep ρ h H) (he : elemT P ts = some (el, es, by_, z)) (hx : appXs h.a es x = some (k, xs)) (hg : h.get b = .cells mm c) (e1 : rowT P tx = true)
    (e3 : chk (tt && Nat.beq es' es && Nat.ble (Nat.add off (Nat.mul m es)) mm && notSame b x && Nat.blt (Nat.add (Nat.mul m es) xs.length) 2048 && Nat.blt (Nat.add m k) (2 ^ 30) && AV.bdL h.n xs)
          (h.set b .gone fun h1 => h1.newS (.cells (c.take (Nat.mul m es) off ++ xs).length (ofL (c.take (Nat.mul m es) off ++ xs))) fun b' => K (.osl b' 0 (Nat.add m k) es)) = some res) : ∃ H2, SubT H H2 ∧ (off + m * es = mm → H2 = H) ∧
    match elemT P ts with
      | some (_, es, _, _) => rowT P tx = true ∧ match appXs H2 es (ren ρ x) with
        | some (k, xs) => match ren ρ (.osl b off m es') with
          | .nilsl => (k = 0 → KP ρ h.n K res .nilsl H2) ∧ (k ≠ 0 → k < 2 ^ 30 ∧ ∀ b, H2 b = none → KP ρ h.n K res (.osl b 0 k es) (H2.upd b (.cells xs)))
          | .osl b 0 n es' => es' = es ∧ n + k < 2 ^ 30 ∧ match H2 b with
            | some (.cells cs) => cs.length = n * es ∧ ∀ b', (H2.del b) b' = none → KP ρ h.n K res (.osl b' 0 (n + k) es) ((H2.del b).upd b' (.cells (cs ++ xs)))
            | _ => False
          | .osl b (off + 1) n es' => es' = es ∧ n + k < 2 ^ 30 ∧ match H2 b with
            | some (.cells cs) => cs.length = off + 1 + n * es ∧ ∀ b' (pre : List AV), (H2.del b) b' = none → KP ρ h.n K res (.osl b' pre.length (n + k) es) ((H2.del b).upd b' (.cells (pre ++ (cs.drop (off + 1) ++ xs))))
            | _ => False
          | _ => False
        | none => False
      | none => False := by
  obtain ⟨e4, e5⟩ := chk_some e3
  simp only [Bool.and_eq_true] at e4
  obtain ⟨⟨⟨⟨⟨⟨_, c2⟩, c3⟩, c7⟩, c4⟩, c6⟩, c5⟩ := e4
  have c2 : es' = es := by simpa using c2
  have c3 : off + m * es ≤ mm := Nat.ble_eq.mp c3
  have c4 : m * es + xs.length < 2048 := Nat.blt_eq.mp c4
  have c6 : m + k < 2 ^ 30 := Nat.blt_eq.mp c6
  subst c2
  rw [he]
  obtain ⟨hH, hm, hwf, hbd⟩ := cells_at R hg
  have hne : h.get b ≠ .gone := by rw [hg]; simp
  obtain ⟨hlo, hlt, e6⟩ := set_some e5
  have R1 := R.del hlo hne
  obtain ⟨e7, e8⟩ := newS_some e6
  obtain ⟨F, hF⟩ : ∃ F, F = ρ.p b ++ (c.take (off + m * es') 0).map (ren ρ) := ⟨_, rfl⟩
  have hFl : F.length = off + ρ.s b + m * es' := by rw [hF]; simp [Tr.take_length, Rn.s]; omega
  have hFd : F.drop (off + ρ.s b) = (c.take (m * es') off).map (ren ρ) := by
    rw [hF, drop_pre (s := ρ.s b) (pre := ρ.p b) rfl, ← List.map_drop, Tr.take_drop, Nat.zero_add, show off + m * es' - off = m * es' from by omega]
  have bdx : AV.bdL h.n (c.take (m * es') off ++ xs) = true := by
    rw [bdL_iff] at hbd c5 ⊢
    intro a ha
    rcases List.mem_append.1 ha with q | q
    · refine hbd a ?_
      have e9 : c.take (m * es') off = ((c.take mm 0).drop off).take (m * es') := by
        rw [Tr.take_drop, Nat.zero_add, Tr.take_take _ _ _ _ (by omega)]
      rw [e9] at q
      exact List.mem_of_mem_drop (List.mem_of_mem_take q)
    · exact c5 a q
  have hll : (c.take (m * es') off ++ xs).length = m * es' + xs.length := by simp [Tr.take_length]
  obtain ⟨o1, o2⟩ := ofL_spec (l := c.take (m * es') off ++ xs) (by omega)
  -- what is left, for any prefix
  have main : ∀ b' (pre : List AV), (H.del (ρ.b b)) b' = none → KP ρ h.n K res (.osl b' pre.length (m + k) es') ((H.del (ρ.b b)).upd b' (.cells (pre ++ ((c.take (m * es') off).map (ren ρ) ++ xs.map (ren ρ))))) := by
    intro b' pre hb'
    obtain ⟨ρ', ag, q1, q2, q3, R'⟩ := R1.newP e7 pre (h.n :: h.sh) (fun i hi => by simp at hi ⊢; exact hi.2) (fun hi => by simp at hi) hb' (c := .cells (c.take (m * es') off ++ xs).length (ofL (c.take (m * es') off ++ xs))) (C := .cells (pre ++ ((c.take (m * es') off).map (ren ρ) ++ xs.map (ren ρ)))) (by simp)
      ⟨by omega, o1, by rw [o2]; exact bdL_mono (Nat.le_succ _) _ bdx⟩ (ρ.r 0)
      (by
        show some _ = some _
        rw [o2, ← List.map_append, map_agr (n := h.n) (ρ := ρ) (Agr.newP (b := b') (pre := pre) (r := ρ.r 0)) bdx]
        simp)
    exact ⟨ρ', _, _, ag, by show h.n ≤ h.n + 1; omega, R', by simp only [ren, Rn.s]; rw [q1, q2, Nat.zero_add]; rfl, e8⟩
  refine ⟨H.upd (ρ.b b) (.cells F), fun b2 => ?_, fun hex => ?_, e1, ?_⟩
  rotate_left
  · funext i
    by_cases qi : i = ρ.b b
    · subst qi; rw [AHeap.upd_same, hH, hF, hex]
    · exact AHeap.upd_ne qi
  rotate_left
  · by_cases q : b2 = ρ.b b
    · subst q
      refine .inr ⟨_, off + ρ.s b + m * es', hH, ?_⟩
      rw [AHeap.upd_same, hF, List.take_append, List.take_of_length_le (by unfold Rn.s; omega), ← List.map_take, show off + ρ.s b + m * es' - (ρ.p b).length = off + m * es' from by unfold Rn.s; omega, Tr.take_take _ _ _ _ c3]
    · exact .inl (AHeap.upd_ne q)
  have hx2 : appXs (H.upd (ρ.b b) (.cells F)) es' (ren ρ x) = some (k, xs.map (ren ρ)) := by
    have q := appXs_ren R hx
    cases x <;> first | exact q | skip
    rename_i b2 off2 n2 es2
    have hb2 : b2 ≠ b := by intro qq; subst qq; simp [notSame] at c7
    have hg2 : h.get b2 ≠ .gone := by
      intro qq
      simp [appXs, XH.a, qq] at hx
    have : ρ.b b2 ≠ ρ.b b := fun qq => hb2 (R.inj _ _ hg2 hne qq)
    simp only [ren, appXs, AHeap.upd_ne this] at q ⊢
    exact q
  rw [hx2]
  have hdel : (H.upd (ρ.b b) (.cells F)).del (ρ.b b) = H.del (ρ.b b) := by
    funext i
    by_cases qi : i = ρ.b b
    · subst qi; rw [AHeap.del_same, AHeap.del_same]
    · rw [AHeap.del_ne qi, AHeap.del_ne qi, AHeap.upd_ne qi]
  simp only [ren]
  generalize ho : off + ρ.s b = o at hFl hFd
  cases o with
  | zero =>
    simp only [AHeap.upd_same, hdel]
    rw [List.drop_zero] at hFd
    refine ⟨trivial, c6, by omega, fun b' hb' => ?_⟩
    have := main b' [] hb'
    rw [hFd]
    simpa using this
  | succ o =>
    simp only [AHeap.upd_same, hdel]
    refine ⟨trivial, c6, hFl, fun b' pre hb' => ?_⟩
    rw [hFd]
    exact main b' pre hb'
theorem append_sound {ts tx : TypeId} {s x : AV} (R : HRep ρ h H) (e : xappend P false h ts tx s x K = some res) :
    match elemT P ts with
      | some (_, es, _, _) => rowT P tx = true ∧ match appXs H es (ren ρ x) with
        | some (k, xs) => match ren ρ s with
          | .nilsl => (k = 0 → KP ρ h.n K res .nilsl H) ∧ (k ≠ 0 → k < 2 ^ 30 ∧ ∀ b, H b = none → KP ρ h.n K res (.osl b 0 k es) (H.upd b (.cells xs)))
          | .osl b 0 n es' => es' = es ∧ n + k < 2 ^ 30 ∧ match H b with
            | some (.cells cs) => cs.length = n * es ∧ ∀ b', (H.del b) b' = none → KP ρ h.n K res (.osl b' 0 (n + k) es) ((H.del b).upd b' (.cells (cs ++ xs)))
            | _ => False
          | .osl b (off + 1) n es' => es' = es ∧ n + k < 2 ^ 30 ∧ match H b with
            | some (.cells cs) => cs.length = off + 1 + n * es ∧ ∀ b' (pre : List AV), (H.del b) b' = none → KP ρ h.n K res (.osl b' pre.length (n + k) es) ((H.del b).upd b' (.cells (pre ++ (cs.drop (off + 1) ++ xs))))
            | _ => False
          | _ => False
        | none => False
      | none => False := by
  unfold xappend at e
  split at e
  · next el es by_ z he =>
    obtain ⟨e1, e2⟩ := chk_some e
    rw [he]
    refine ⟨e1, ?_⟩
    split at e2
    · next k xs hx =>
      rw [appXs_ren R hx]
      split at e2
      · -- nil
        simp only [ren]
        split at e2
        · next hk =>
          have hk0 : k = 0 := by simpa using hk
          exact ⟨fun _ => KP.here R e2, fun hne => absurd hk0 hne⟩
        · next hk =>
          have hk0 : k ≠ 0 := by intro q; subst q; simp at hk
          obtain ⟨e3, e4⟩ := chk_some e2
          exact ⟨fun q => absurd q hk0, fun _ => ⟨Nat.blt_eq.mp e3, xnew_sound R (mkr := fun b => .osl b 0 k es) (fun ρ' hs => by simp [ren, hs]) e4⟩⟩
      · next b off m es' =>
        obtain ⟨mm, c, hg, e3⟩ := cell_some e2
        split at e3
        rotate_left
        · obtain ⟨H2, _, hex, q⟩ := append_off R he hx hg e1 e3
          obtain ⟨e4, _⟩ := chk_some e3
          simp only [Bool.and_eq_true, Bool.false_or, beq_iff_eq, Nat.beq_eq_true_eq] at e4
          have c2 : es' = es := by simpa using e4.1.1.1.1.1.2
          have c8 : off + m * es = mm := by simpa using e4.1.1.1.1.1.1
          have h2 := hex c8
          subst h2
          rw [he] at q
          have q2 := q.2
          rw [appXs_ren R hx] at q2
          exact q2
        next hsw =>
        obtain ⟨e4, e5⟩ := chk_some e3
        simp only [Bool.and_eq_true, Bool.not_eq_true'] at hsw
        simp only [Bool.and_eq_true, Bool.false_and, Bool.or_false] at e4
        obtain ⟨⟨⟨⟨⟨c1, c2⟩, c3⟩, c4⟩, c6⟩, c5⟩ := e4
        have c1 : off = 0 := by simpa using c1
        have c2 : es' = es := by simpa using c2
        have c3 : mm = m * es := by simpa using c3
        have c4 : m * es + xs.length < 2048 := Nat.blt_eq.mp c4
        subst c1; subst c2; subst c3
        obtain ⟨hH, hm, hwf, hbd⟩ := cells_at R hg
        have hne : h.get b ≠ .gone := by rw [hg]; simp
        have hp0 : ρ.p b = [] := R.s0 b (XH.get_lt hne) hsw.2
        have hs0 : ρ.s b = 0 := by unfold Rn.s; rw [hp0]; rfl
        rw [hp0, List.nil_append] at hH
        simp only [ren, hs0, hH]
        refine ⟨trivial, Nat.blt_eq.mp c6, by simp [Tr.take_length], fun b' hb' => ?_⟩
        obtain ⟨hlo, hlt, e6⟩ := set_some e5
        have R1 := R.del hlo hne
        obtain ⟨e7, e8⟩ := new_some e6
        have tk : (c.putL 11 xs (m * es')).take (m * es' + xs.length) 0 = c.take (m * es') 0 ++ xs := by
          rw [Tr.putL_take hwf (by simpa using Nat.le_of_lt c4) (Nat.le_refl _)]
          unfold splice
          rw [Tr.take_take _ _ _ _ (Nat.le_add_right _ _), List.drop_of_length_le (by simp [Tr.take_length]), List.append_nil]
        have bdx : AV.bdL h.n (c.take (m * es') 0 ++ xs) = true := by
          rw [bdL_iff] at hbd c5 ⊢
          intro a ha
          rcases List.mem_append.1 ha with q | q
          · exact hbd a q
          · exact c5 a q
        obtain ⟨ρ', ag, q1, q2, q3, R'⟩ := R1.new e7 hb' (c := .cells (m * es' + xs.length) (c.putL 11 xs (m * es'))) (C := .cells ((c.take (m * es') 0).map (ren ρ) ++ xs.map (ren ρ))) (by simp)
          ⟨by omega, (Tr.putL_spec 11 xs c (m * es') hwf (by omega)).1, by rw [tk]; exact bdL_mono (Nat.le_succ _) _ bdx⟩ (ρ.r 0)
          (CR.cells0 (by simp) (by
            rw [tk, List.nil_append, ← List.map_append]
            rw [map_agr (n := h.n) (ρ := ρ) Agr.new bdx]))
        exact ⟨ρ', _, _, ag, by show h.n ≤ h.n + 1; omega, R', by simp only [ren]; rw [q1, q2]; rfl, e8⟩
      · cases e2
    · cases e2
  · cases e

/-! ### Maps -/
theorem kk_ren {a : AV} {k : KK} (hk : kkOf a = some k) : ren ρ a = a := by cases a <;> simp [kkOf] at hk <;> rfl
theorem kks_ren {cs : List AV} : ∀ {ks : List KK}, cs.map kkOf = ks.map some → cs.map (ren ρ) = cs := by
  induction cs with
  | nil => intro ks _; rfl
  | cons a as ih =>
    intro ks e
    cases ks with
    | nil => simp at e
    | cons k ks =>
      simp only [List.map_cons, List.cons.injEq] at e
      simp only [List.map_cons, kk_ren e.1, ih e.2]
theorem key_ren {sh : KShape} {a : AV} (hk : sh.ok a = true) : ren ρ a = a := by
  cases sh with
  | one k => exact kk_ren (by simpa [KShape.ok] using hk)
  | many ks =>
    cases a <;> simp [KShape.ok] at hk
    rename_i cs
    simp only [ren, renL_eq, kks_ren hk]

theorem keyEq1_iff {a b : AV} {k k' : KK} (ha : kkOf a = some k) (hb : kkOf b = some k') : keyEq1 a b = true ↔ a = b := by
  cases a <;> simp [kkOf] at ha <;> cases b <;> simp [kkOf] at hb <;> simp [keyEq1]
theorem keyEqL_iff : ∀ {as bs : List AV} {ks ks' : List KK}, as.map kkOf = ks.map some → bs.map kkOf = ks'.map some → (keyEqL as bs = true ↔ as = bs)
  | [], [], _, _, _, _ => by simp [keyEqL]
  | [], b :: bs, _, _, _, _ => by simp [keyEqL]
  | a :: as, [], _, _, _, _ => by simp [keyEqL]
  | a :: as, b :: bs, [], _, h, _ => by simp at h
  | a :: as, b :: bs, _ :: _, [], _, h => by simp at h
  | a :: as, b :: bs, k :: ks, k' :: ks', h, h' => by
    simp only [List.map_cons, List.cons.injEq] at h h'
    simp only [keyEqL, Bool.and_eq_true, keyEq1_iff h.1 h'.1, keyEqL_iff h.2 h'.2, List.cons.injEq]
theorem keyEq_iff {sh : KShape} {a b : AV} (ha : sh.ok a = true) (hb : sh.ok b = true) : keyEq a b = true ↔ a = b := by
  cases sh with
  | one k =>
    have ha : kkOf a = some k := by simpa [KShape.ok] using ha
    have hb : kkOf b = some k := by simpa [KShape.ok] using hb
    have := keyEq1_iff ha hb
    cases a <;> simp [kkOf] at ha <;> exact this
  | many ks =>
    cases a <;> simp [KShape.ok] at ha
    cases b <;> simp [KShape.ok] at hb
    rename_i as bs
    simp only [keyEq, keyEqL_iff ha hb, AV.agg.injEq]

theorem xget_eq {sh : KShape} {k : AV} (hk : sh.ok k = true) : ∀ {es : List (AV × AV)}, (∀ e ∈ es, sh.ok e.1 = true) → mapGet (es.map fun e => (ren ρ e.1, ren ρ e.2)) k = (xget es k).map (ren ρ)
  | [], _ => rfl
  | e :: es, h => by
    have h1 := h e (by simp)
    have h2 := xget_eq hk (es := es) fun x hx => h x (by simp [hx])
    simp only [List.map_cons, mapGet, xget, key_ren h1]
    have := keyEq_iff h1 hk
    cases hq : keyEq e.1 k with
    | true => rw [if_pos (this.1 hq)]; rfl
    | false => rw [if_neg (fun q => by rw [this.2 q] at hq; cases hq)]; exact h2
theorem xset_eq {sh : KShape} {k v : AV} (hk : sh.ok k = true) : ∀ {es : List (AV × AV)}, (∀ e ∈ es, sh.ok e.1 = true) → mapSet (es.map fun e => (ren ρ e.1, ren ρ e.2)) k (ren ρ v) = (xset es k v).map fun e => (ren ρ e.1, ren ρ e.2)
  | [], _ => by simp [mapSet, xset, key_ren hk]
  | e :: es, h => by
    have h1 := h e (by simp)
    have h2 := xset_eq (v := v) hk (es := es) fun x hx => h x (by simp [hx])
    simp only [List.map_cons, mapSet, xset, key_ren h1]
    have := keyEq_iff h1 hk
    cases hq : keyEq e.1 k with
    | true => rw [if_pos (this.1 hq)]; simp [key_ren hk]
    | false => rw [if_neg (fun q => by rw [this.2 q] at hq; cases hq), h2]; simp [key_ren h1]
theorem xset_mem {k v : AV} : ∀ {es : List (AV × AV)} {e : AV × AV}, e ∈ xset es k v → e ∈ es ∨ e = (k, v)
  | [], e, h => by simpa [xset] using h
  | x :: es, e, h => by
    simp only [xset] at h
    split at h
    · rcases List.mem_cons.1 h with q | q
      · exact .inr q
      · exact .inl (by simp [q])
    · rcases List.mem_cons.1 h with q | q
      · exact .inl (by simp [q])
      · rcases xset_mem q with q | q
        · exact .inl (by simp [q])
        · exact .inr q

theorem mapPut_sound {ty : TypeId} {m k x : Operand} (R : HRep ρ h H) (e : xmapPut P t h ty m k x K = some res) :
    match P.underlying ty with
      | some (.map kt _) => match evalA (renF ρ t) m with
        | .map b => match H b with
          | some (.map sh es) => shapeT P kt = some sh ∧ sh.ok (evalA (renF ρ t) k) = true ∧ KP ρ h.n K res .undef (H.upd b (.map sh (mapSet es (evalA (renF ρ t) k) (evalA (renF ρ t) x))))
          | _ => False
        | _ => False
      | _ => False := by
  unfold xmapPut at e
  split at e
  · next kt et hu =>
    rw [hu]
    split at e
    · next b hm =>
      simp only [evalA_ren, hm, ren]
      split at e
      · next sh es hg =>
        have hcr := R.cr b
        have hok := R.ok b
        rw [hg] at hcr hok
        have hne : h.get b ≠ .gone := by rw [hg]; simp
        rw [hcr.2]
        obtain ⟨e1, e2⟩ := chk_some e
        simp only [Bool.and_eq_true, decide_eq_true_eq] at e1
        obtain ⟨⟨⟨c1, c2⟩, c3⟩, c4⟩ := e1
        refine ⟨c1, by rw [key_ren c2]; exact c2, ?_⟩
        obtain ⟨hlo, _, e3⟩ := set_some e2
        refine KP.set (r := .undef) (c := .map sh (xset es (evalA t k) (evalA t x))) R hlo hne (by simp) ⟨?_, ?_⟩ ⟨hcr.1, ?_⟩ e3
        · rw [bdE_iff]
          intro q hq
          rcases xset_mem hq with q1 | q1
          · exact (bdE_iff _).1 hok.1 q q1
          · rw [q1]; exact ⟨c3, c4⟩
        · intro q hq
          rcases xset_mem hq with q1 | q1
          · exact hok.2 q q1
          · rw [q1]; exact c2
        · rw [key_ren c2, xset_eq c2 hok.2]
      · cases e
    · cases e
  · cases e

theorem parts_ren (parts : Array (Nat × Operand)) : (parts.toList.map fun p => (p.1, evalA (renF ρ t) p.2)) = (parts.toList.map fun p => (p.1, evalA t p.2)).map fun p => (p.1, ren ρ p.2) := by
  rw [List.map_map]
  apply List.map_congr_left
  intro p _
  simp

/-- **All but calls, and but truncation.** -/
theorem xeff_sound {op : Op} (R : HRep ρ h H) (hf : ∀ f first caps, op = .makeFunc f first caps → ∃ g, f = .func g) (e : xeff P false t h op K = some res) : effStep P (renF ρ t) H op (KP ρ h.n K res) := by
  unfold xeff at e
  split at e
  · next ty x =>
    obtain ⟨e1, e2⟩ := chk_some e
    simp only [effStep, evalA_ren, ren_fit, ren_cells]
    exact ⟨e1, xnew_sound R (mkr := fun b => .ptr b 0) (fun ρ' hs => by simp [ren, hs]) e2⟩
  · next ty len parts =>
    split at e
    · next el es by_ z he =>
      split at e
      · next cells hfl =>
        obtain ⟨e1, e2⟩ := chk_some e
        simp only [Bool.and_eq_true] at e1
        have q := fillA_ren (ρ := ρ) _ hfl
        rw [zcells_ren (elem_z he)] at q
        simp only [effStep, he, parts_ren, q]
        exact ⟨Nat.ble_eq.mp e1.1, Nat.ble_eq.mp e1.2, xnew_sound R (mkr := fun b => .osl b 0 len es) (fun ρ' hs => by simp [ren, hs]) e2⟩
      · cases e
    · cases e
  · next ty l c =>
    split at e
    · next el es by_ z he =>
      split at e
      · next kl l' kc c' hl hc =>
        obtain ⟨e1, e2⟩ := chk_some e
        simp only [Bool.and_eq_true, decide_eq_true_eq] at e1
        simp only [effStep, he, evalA_ren, hl, hc, ren]
        refine ⟨e1.1.1, e1.1.2, e1.2, ?_⟩
        have := xnew_sound R (mkr := fun b => .osl b 0 l'.toNat es) (fun ρ' hs => by simp [ren, hs]) e2
        rw [zcells_ren (elem_z he)] at this
        exact this
      · cases e
    · cases e
  · next ty =>
    split at e
    · next kt et hu =>
      split at e
      · next sh hs =>
        obtain ⟨e3, e4⟩ := new_some e
        simp only [effStep, hu, hs]
        intro b hb
        obtain ⟨ρ', ag, q1, q2, q3, R'⟩ := R.new e3 hb (c := .map sh []) (C := .map sh []) (by simp) ⟨by simp [AV.bdE], by simp⟩ (ρ.r 0) ⟨by simp, by simp⟩
        exact ⟨ρ', .map h.n, _, ag, by show h.n ≤ h.n + 1; omega, R', by simp only [ren]; rw [q1], e4⟩
      · cases e
    · cases e
  · exact mapPut_sound R e
  · exact mapPut_sound R e
  · next ty m k ok =>
    split at e
    · next kt et hu =>
      split at e
      · next z b hz hm =>
        split at e
        · next sh es hg =>
          have hcr := R.cr b
          have hok := R.ok b
          rw [hg] at hcr hok
          obtain ⟨e1, e2⟩ := chk_some e
          simp only [Bool.and_eq_true, decide_eq_true_eq] at e1
          obtain ⟨c1, c2⟩ := e1
          simp only [effStep, hu, hz, evalA_ren, hm, ren, hcr.2]
          refine ⟨c1, by rw [key_ren c2]; exact c2, ?_⟩
          rw [key_ren c2, xget_eq c2 hok.2]
          have hd : ((xget es (evalA t k)).map (ren ρ)).getD z = ren ρ ((xget es (evalA t k)).getD z) := by
            cases xget es (evalA t k) with
            | none => simp [zeroV_ren hz]
            | some v => rfl
          rw [hd]
          have := KP.here R e2
          cases ok
          · simpa using this
          · simpa [ren] using this
        · cases e
      · cases e
    · cases e
  · next ty x =>
    split at e
    · next s hu hx =>
      obtain ⟨e3, e4⟩ := new_some e
      simp only [effStep, hu, evalA_ren, hx, ren]
      intro b hb
      obtain ⟨ρ', ag, q1, q2, q3, R'⟩ := R.new e3 hb (c := .sit s 0) (C := .sit s 0) (by simp) trivial (ρ.r 0) ⟨by simp, by simp⟩
      exact ⟨ρ', .ptr h.n 0, _, ag, by show h.n ≤ h.n + 1; omega, R', by simp only [ren]; rw [q1, q2], e4⟩
    · cases e
  · next it =>
    split at e
    · next b hit =>
      split at e
      · next s pos hg =>
        have hcr := R.cr b
        rw [hg] at hcr
        have hne : h.get b ≠ .gone := by rw [hg]; simp
        have hs0 : ρ.s b = 0 := by unfold Rn.s; rw [hcr.1]; rfl
        simp only [effStep, evalA_ren, hit, ren, hs0, hcr.2]
        split at e
        · next hlt =>
          obtain ⟨hlo, _, e3⟩ := set_some e
          refine ⟨fun _ => KP.set (r := .tup [.bool true, .int .i64 pos, .int .i32 (Utf8.decode ⟨s.toArray⟩ pos).1]) (c := .sit s (pos + (Utf8.decode ⟨s.toArray⟩ pos).2)) R hlo hne (by simp) (C := .sit s (pos + (Utf8.decode ⟨s.toArray⟩ pos).2)) trivial ⟨hcr.1, rfl⟩ e3 |> fun q => by simpa [ren] using q, fun hn => absurd (Nat.blt_eq.mp hlt) hn⟩
        · next hlt =>
          refine ⟨fun hp => ?_, fun _ => by have := KP.here R e; simpa [ren] using this⟩
          rw [Nat.blt_eq.mpr hp] at hlt; cases hlt
      · cases e
    · cases e
  · next args ats =>
    split at e
    · next s x ts tx ha hat => simp only [effStep, ha, hat, evalA_ren]; exact append_sound R e
    · cases e
  · next args ats =>
    split at e
    · next d x td tx ha hat =>
      split at e
      · next el es by_ z he =>
        split at e
        · next k xs b off m es' hx hd =>
          obtain ⟨mm, c, hg, e3⟩ := cell_some e
          obtain ⟨e4, e5⟩ := chk_some e3
          simp only [Bool.and_eq_true] at e4
          obtain ⟨⟨c2, c3⟩, c5⟩ := e4
          have c2 : es' = es := by simpa using c2
          have c3 := Nat.ble_eq.mp c3
          subst c2
          obtain ⟨hH, hm, hwf, hbd⟩ := cells_at R hg
          have hne : h.get b ≠ .gone := by rw [hg]; simp
          obtain ⟨hlo, _, e6⟩ := set_some e5
          simp only [effStep, ha, hat, he, evalA_ren, hd, ren, appXs_ren R hx, hH]
          have hmin : min k m * es' ≤ m * es' := Nat.mul_le_mul_right _ (Nat.min_le_right _ _)
          have htl : (xs.take (min k m * es')).length ≤ m * es' := by simp; omega
          have tk : (c.putL 11 (xs.take (min k m * es')) off).take mm 0 = splice (c.take mm 0) off (xs.take (min k m * es')) := Tr.putL_take hwf (by omega) (by omega)
          refine ⟨trivial, by simp [Tr.take_length, Rn.s]; omega, ?_⟩
          rw [splice_pfx (s := ρ.s b) (pre := ρ.p b) rfl]
          refine KP.set (r := .int .i64 (min k m)) (c := .cells mm (c.putL 11 (xs.take (min k m * es')) off)) R hlo hne (by simp) ⟨hm, (Tr.putL_spec 11 _ c off hwf (by omega)).1, ?_⟩ ?_ e6
          · rw [tk, bdL_iff]
            rw [bdL_iff] at hbd c5
            intro a ha
            unfold splice at ha
            rcases List.mem_append.1 ha with q | q
            · rcases List.mem_append.1 q with q | q
              · exact hbd a (List.mem_of_mem_take q)
              · exact c5 a (List.mem_of_mem_take q)
            · exact hbd a (List.mem_of_mem_drop q)
          · show some _ = some _
            rw [tk, ← splice_ren, List.map_take]
        · cases e
      · cases e
    · cases e
  · next args =>
    split at e
    · next x rest ha =>
      split at e
      · next r hr =>
        have := minA_ren (ρ := ρ) _ hr
        simp only [effStep, ha, evalA_ren]
        rw [evalL_ren, this]
        exact KP.here R e
      · cases e
    · cases e
  · next args =>
    split at e
    · next x rest ha =>
      split at e
      · next r hr =>
        have := minA_ren (ρ := ρ) _ hr
        simp only [effStep, ha, evalA_ren]
        rw [evalL_ren, this]
        exact KP.here R e
      · cases e
    · cases e
  · split at e
    · next r hr =>
      have q := pureA_ren (ρ := ρ) R.hr hf hr
      have key : effStep P (renF ρ t) H op (KP ρ h.n K res) = onSome (pureA P (renF ρ t) H op) fun v => KP ρ h.n K res v H := by
        unfold effStep
        split
        all_goals first
          | rfl
          | (simp [pureA] at hr; done)
      rw [key, q]
      exact KP.here R e
    · cases e
end
end Go.AH
