/-
  The evaluator's operations, as they are resolved, are sound.
-/
import Derived.Test.YtkdhgablioljnaaAhXo
set_option linter.unusedSimpArgs false
set_option linter.unusedVariables false
set_option linter.unusedSectionVars false
namespace Go.AH
open Go

section
variable {P : Program} {ρ : Rn} {t : Fr} {h : XH} {H : AHeap} {res : AV × XH} {K : KV} {n : Nat} {tr fl : Bool} {call : XCall}

theorem ev_of (x : Operand) : (XA.of x).ev t = evalA t.at x := by cases x <;> rfl
theorem evL_of (xs : List Operand) : (xs.map XA.of).map (fun a => a.ev t) = xs.map (evalA t.at) := by
  rw [List.map_map]
  apply List.map_congr_left
  intro x _
  exact ev_of x

theorem bd_sval (v : Value) : (sval v).bd n = true := by
  unfold sval
  split <;> simp [AV.bd]
theorem bd_cval (v : Value) : (cval v).bd n = true := by
  unfold cval
  split
  · split
    · simp only [AV.bd, bdL_iff]
      intro a ha
      obtain ⟨x, _, rfl⟩ := List.mem_map.1 ha
      exact bd_sval x
    · simp [AV.bd]
  · exact bd_sval _
theorem bd_cells {v : AV} (hv : v.bd n = true) : AV.bdL n v.cells = true := by
  cases v <;> simp [AV.cells, bdL_iff, AV.bd] at hv ⊢ <;> exact hv
theorem zeroT_bd {e : TypeId} {z : List AV} (hz : zeroT P e = some z) : AV.bdL n z = true := by
  unfold zeroT at hz
  split at hz
  · next v _ =>
    split at hz
    · cases hz
    · next a hne => cases hz; exact bd_cells (bd_cval _)
  · cases hz

theorem a_cells {b m : Nat} {c : Tr AV} (hg : h.get b = .cells m c) : h.a b = some (.cells (c.take m 0)) := by unfold XH.a; rw [hg]

/-- What has no part in memory but to read it: sound by what it gives. -/
theorem pure_sound {op : Op} {r : AV} (R : HRep ρ h H) (hf : ∀ f first caps, op = .makeFunc f first caps → ∃ g, f = .func g) (hr : pureA P t.at h.a op = some r) (e : K r h = some res) : effStep P (renF ρ t.at) H op (KP ρ h.n K res) := by
  have q := pureA_ren (ρ := ρ) R.hr hf hr
  have key : effStep P (renF ρ t.at) H op (KP ρ h.n K res) = onSome (pureA P (renF ρ t.at) H op) fun v => KP ρ h.n K res v H := by
    unfold effStep
    split
    all_goals first
      | rfl
      | (simp [pureA] at hr; done)
  rw [key, q]
  exact KP.here R e

theorem take_head {c : Tr AV} {m off : Nat} (hlt : off < m) : ((c.take m 0).drop off).head? = some (c.getU off) := by
  rw [Tr.take_drop, Nat.zero_add, show m - off = (m - off - 1) + 1 from by omega, Tr.take_succ]; rfl

theorem xk_load {ty : TypeId} {a : Operand} {g : Bool} {s : Nat} (hg : aggT P ty = some g) (hs : szT P ty = some s) (e : xk P tr call (.load (.of a) g s) t h K = some res) : ∃ r, pureA P t.at h.a (.load ty a) = some r ∧ K r h = some res := by
  simp only [xk, ev_of] at e
  simp only [pureA]
  split at e
  · next b off ha =>
    obtain ⟨m, c, hc, e1⟩ := cell_some e
    have hac : h.a b = some (.cells (c.take m 0)) := a_cells hc
    simp only [ha, hac, loadA, hg, hs, loadC]
    cases g with
    | false =>
      obtain ⟨e2, e3⟩ := chk_some e1
      exact ⟨_, by simpa using take_head (Nat.blt_eq.mp e2), e3⟩
    | true =>
      obtain ⟨e2, e3⟩ := chk_some e1
      have hle : off + s ≤ m := Nat.ble_eq.mp e2
      refine ⟨_, ?_, e3⟩
      rw [if_pos rfl, if_pos (by simp [Tr.take_length]; omega), Tr.take_drop, Nat.zero_add, Tr.take_take _ _ _ _ (by omega)]
  · next cells ha =>
    rw [ha]
    obtain ⟨v, hv, e1⟩ := optK_some e
    exact ⟨v, by simp only [loadA, hg, hs, hv], e1⟩
  · cases e

theorem xk_fad {s : TypeId} {x : Operand} {f off : Nat} {ft : TypeId} {k : Nat} (hf : foT P s f = some (off, ft)) (hs : szT P ft = some (k + 1)) (e : xk P tr call (.fad (.of x) off) t h K = some res) : ∃ r, pureA P t.at h.a (.fieldAddr s x f) = some r ∧ K r h = some res := by
  simp only [xk, ev_of] at e
  simp only [pureA, fieldAddrA, hf, hs]
  rw [if_neg (by omega)]
  split at e
  · next b o ha => rw [ha]; exact ⟨_, rfl, e⟩
  · next cells ha => rw [ha]; exact ⟨_, rfl, e⟩
  · cases e

theorem xk_idxS {ty el : TypeId} {x i : Operand} {es : Nat} (hu : P.underlying ty = some (.slice el)) (hs : szT P el = some es) (e : xk P tr call (.idxS (.of x) (.of i) es) t h K = some res) : ∃ r, pureA P t.at h.a (.indexAddr ty x i) = some r ∧ K r h = some res := by
  simp only [xk, ev_of] at e
  obtain ⟨k, z, hi, e1⟩ := intK_some e
  simp only [pureA, indexAddrA, hi, hu]
  split at e1
  · next j =>
    split at e1
    · next b off m es' ha =>
      obtain ⟨e2, e3⟩ := chk_some e1
      have hlt := Nat.blt_eq.mp e2
      rw [ha]
      simp only [hs]
      refine ⟨_, ?_, e3⟩
      rw [if_pos ⟨Int.natCast_nonneg j, Int.ofNat_lt.2 hlt⟩]
      rfl
    · next m cells ha =>
      obtain ⟨e2, e3⟩ := chk_some e1
      simp only [Bool.and_eq_true] at e2
      have hlt := Nat.blt_eq.mp e2.1
      have hl2 : j * es < cells.length := Nat.blt_eq.mp e2.2
      rw [ha]
      simp only [hs]
      refine ⟨_, ?_, e3⟩
      rw [if_pos ⟨Int.natCast_nonneg j, Int.ofNat_lt.2 hlt, hl2⟩]
      rfl
    · cases e1
  · cases e1

theorem xk_idxA {ty el : TypeId} {x i : Operand} {es len : Nat} (hu : P.underlying ty = some (.array len el)) (hs : szT P el = some es) (e : xk P tr call (.idxA (.of x) (.of i) es len) t h K = some res) : ∃ r, pureA P t.at h.a (.indexAddr ty x i) = some r ∧ K r h = some res := by
  simp only [xk, ev_of] at e
  obtain ⟨k, z, hi, e1⟩ := intK_some e
  simp only [pureA, indexAddrA, hi, hu]
  split at e1
  · next j =>
    split at e1
    · next b off ha =>
      obtain ⟨e2, e3⟩ := chk_some e1
      have hlt := Nat.blt_eq.mp e2
      rw [ha]
      simp only [hs]
      refine ⟨_, ?_, e3⟩
      rw [if_pos ⟨Int.natCast_nonneg j, Int.ofNat_lt.2 hlt⟩]
      rfl
    · next cells ha =>
      obtain ⟨e2, e3⟩ := chk_some e1
      have hlt := Nat.blt_eq.mp e2
      rw [ha]
      simp only [hs]
      refine ⟨_, ?_, e3⟩
      rw [if_pos ⟨Int.natCast_nonneg j, Int.ofNat_lt.2 hlt⟩]
      rfl
    · cases e1
  · cases e1

theorem binF_eq {o : BinOp} {f : IntKind → Int → Int → Option AV} (hf : binF o = some f) (k : IntKind) (a b : Int) : intA o k a b = f k a b ∧ o ≠ .shl ∧ o ≠ .shr := by
  cases o <;> simp [binF] at hf <;> subst hf <;> exact ⟨rfl, by simp, by simp⟩

theorem xk_bin {ty yt : TypeId} {o : BinOp} {x y : Operand} {f : IntKind → Int → Int → Option AV} (hf : binF o = some f) (e : xk P tr call (.bin f (.of x) (.of y)) t h K = some res) : ∃ r, pureA P t.at h.a (.binOp o ty x y yt) = some r ∧ K r h = some res := by
  simp only [xk, ev_of] at e
  obtain ⟨k, a, hx, e1⟩ := intK_some e
  obtain ⟨k', b, hy, e2⟩ := intK_some e1
  obtain ⟨e3, e4⟩ := chk_some e2
  obtain ⟨v, hv, e5⟩ := optK_some e4
  have hk : k = k' := by simpa using e3
  subst hk
  obtain ⟨q1, q2, q3⟩ := binF_eq hf k a b
  refine ⟨v, ?_, e5⟩
  simp only [pureA, hx, hy, binA]
  cases o <;> first | (exact absurd rfl q2) | (exact absurd rfl q3) | (simp only [if_true]; rw [q1]; exact hv)

theorem xk_ext {x : Operand} {i : Nat} (e : xk P tr call (.ext (.of x) i) t h K = some res) : ∃ r, pureA P t.at h.a (.extract x i) = some r ∧ K r h = some res := by
  simp only [xk, ev_of] at e
  simp only [pureA]
  split at e
  · next vs ha =>
    obtain ⟨v, hv, e1⟩ := optK_some e
    rw [ha]; exact ⟨v, hv, e1⟩
  · cases e

theorem xk_store {ty : TypeId} {a x : Operand} {s : Nat} (R : HRep ρ h H) (hs : szT P ty = some s) (e : xk P tr call (.store (.of a) (.of x) s) t h K = some res) : effStep P (renF ρ t.at) H (.store ty a x) (KP ρ h.n K res) := by
  simp only [xk, ev_of] at e
  split at e
  · next b off ha =>
    obtain ⟨m, c, hg, e1⟩ := cell_some e
    obtain ⟨e2, e3⟩ := chk_some e1
    simp only [Bool.and_eq_true] at e2
    have hle : off + s ≤ m := Nat.ble_eq.mp e2.1
    have hbx := e2.2
    obtain ⟨hH, hm, hwf, hbd⟩ := cells_at R hg
    have hne : h.get b ≠ .gone := by rw [hg]; simp
    simp only [effStep, evalA_ren, ha, ren, hH, ren_fit, ren_cells]
    have fin : ∀ (c' : Tr AV), h.lo ≤ b → (evalA t.at x).cells.length = s → (evalA t.at x).fit = true → c'.wf 11 → c'.take m 0 = splice (c.take m 0) off (evalA t.at x).cells → K .undef { m := h.m.put 14 b (.cells m c'), n := h.n, lo := h.lo, sh := h.sh } = some res →
        (evalA t.at x).fit = true ∧ szT P ty = some ((evalA t.at x).cells.map (ren ρ)).length ∧ off + ρ.s b + ((evalA t.at x).cells.map (ren ρ)).length ≤ (ρ.p b ++ (c.take m 0).map (ren ρ)).length ∧
          KP ρ h.n K res .undef (H.upd (ρ.b b) (.cells (splice (ρ.p b ++ (c.take m 0).map (ren ρ)) (off + ρ.s b) ((evalA t.at x).cells.map (ren ρ))))) := by
      intro c' hlo hlen hfit hwf' htk hK
      refine ⟨hfit, by simp [hs, hlen], by simp [Tr.take_length, hlen, Rn.s]; omega, ?_⟩
      rw [splice_pfx (s := ρ.s b) (pre := ρ.p b) rfl]
      refine KP.set (r := .undef) (c := .cells m c') R hlo hne (by simp) ⟨hm, hwf', ?_⟩ ?_ hK
      · rw [htk, bdL_iff]
        have hbc := bd_cells hbx
        rw [bdL_iff] at hbd hbc
        intro a ha
        unfold splice at ha
        rcases List.mem_append.1 ha with q | q
        · rcases List.mem_append.1 q with q | q
          · exact hbd a (List.mem_of_mem_take q)
          · exact hbc a q
        · exact hbd a (List.mem_of_mem_drop q)
      · show some _ = some _
        rw [htk, ← splice_ren]
    split at e3
    · next cs hx =>
      obtain ⟨e4, e5⟩ := chk_some e3
      have hl : cs.length = s := by simpa using e4
      obtain ⟨hlo, _, e6⟩ := set_some e5
      rw [hx] at fin ⊢
      exact fin _ hlo hl rfl (Tr.putL_spec 11 cs c off hwf (by omega)).1 (Tr.putL_take hwf (by omega) (by omega)) e6
    · next v hne2 =>
      obtain ⟨e4, e5⟩ := chk_some e3
      simp only [Bool.and_eq_true] at e4
      have h1 : s = 1 := by simpa using e4.1
      obtain ⟨hlo, _, e6⟩ := set_some e5
      have hc : (evalA t.at x).cells = [evalA t.at x] := by
        cases hq : evalA t.at x <;> first | rfl | exact absurd hq (hne2 _)
      refine fin (c.put 11 off (evalA t.at x)) hlo (by rw [hc, h1]; rfl) e4.2 (Tr.put_wf _ _ _ _ hwf) ?_ e6
      rw [hc]
      exact Tr.put_take hwf (by omega) (by omega)
  · cases e

theorem xk_zero {el : TypeId} {z : List AV} (R : HRep ρ h H) (hz : zeroT P el = some z) (e : xk P tr call (.zero z.length (ofL z)) t h K = some res) : effStep P (renF ρ t.at) H (.alloc el) (KP ρ h.n K res) := by
  simp only [xk] at e
  obtain ⟨e1, e2⟩ := chk_some e
  simp only [effStep, hz]
  have e3 : xnew h z (fun b => .ptr b 0) K = some res := by
    unfold xnew
    rw [e1, zeroT_bd hz]; exact e2
  have := xnew_sound R (mkr := fun b => .ptr b 0) (fun ρ' hs => by simp [ren, hs]) e3
  rwa [zeroT_ren hz] at this

/-- **All but calls.** -/
theorem xk_sound {op : Op} (R : HRep ρ h H) (hc : ∀ f args ats, op ≠ .call { callee := .value f, args, argTypes := ats }) (hi : ∀ r m args ats, op ≠ .call { callee := .invoke r m, args, argTypes := ats }) (hf : ∀ f first caps, op = .makeFunc f first caps → ∃ g, f = .func g)
    (e : xk P false call (XK.of P fl op) t h K = some res) : effStep P (renF ρ t.at) H op (KP ρ h.n K res) := by
  have gen : xk P false call (.gen op) t h K = some res → effStep P (renF ρ t.at) H op (KP ρ h.n K res) := fun e => xeff_sound R hf e
  unfold XK.of at e
  split at e
  · next x => simp only [xk, ev_of] at e; exact pure_sound R hf rfl e
  · next x => simp only [xk, ev_of] at e; exact pure_sound R hf rfl e
  · next ty a =>
    split at e
    · next g s hg hs => obtain ⟨r, h1, h2⟩ := xk_load hg hs e; exact pure_sound R hf h1 h2
    · exact gen e
  · next ty a x =>
    split at e
    · next s hs => exact xk_store R hs e
    · exact gen e
  · next el =>
    split at e
    · next z hz => exact xk_zero R hz e
    · exact gen e
  · next s x f =>
    split at e
    · next off ft hfo =>
      split at e
      · next k hs => obtain ⟨r, h1, h2⟩ := xk_fad hfo hs e; exact pure_sound R hf h1 h2
      · exact gen e
    · exact gen e
  · next ty x i =>
    split at e
    · next el hu =>
      split at e
      · next es hs => obtain ⟨r, h1, h2⟩ := xk_idxS hu hs e; exact pure_sound R hf h1 h2
      · exact gen e
    · next len el hu =>
      split at e
      · next es hs => obtain ⟨r, h1, h2⟩ := xk_idxA hu hs e; exact pure_sound R hf h1 h2
      · exact gen e
    · exact gen e
  · next o ty x y yt =>
    split at e
    · split at e
      · next f hb => obtain ⟨r, h1, h2⟩ := xk_bin hb e; exact pure_sound R hf h1 h2
      · exact gen e
    · exact gen e
  · next x i => obtain ⟨r, h1, h2⟩ := xk_ext e; exact pure_sound R hf h1 h2
  · next f args ats => exact absurd rfl (hc f args ats)
  · next r m args ats => exact absurd rfl (hi r m args ats)
  · exact gen e

/-! ### Truncation -/

theorem SubT.none_iff {H H2 : AHeap} (s : SubT H H2) (b : Nat) : H2 b = none ↔ H b = none := by
  rcases s b with q | ⟨cs, m, q1, q2⟩
  · rw [q]
  · rw [q1, q2]; simp

theorem SubT.ext {w : World} {h h2 hf : AHeap} (s : SubT h h2) : Ext w (h.un hf) w (h2.un hf) :=
  ⟨Nat.le_refl _, fun b _ hb => by
    obtain ⟨e1, e2⟩ := AHeap.un_eq_none.1 hb
    exact ⟨AHeap.un_eq_none.2 ⟨(s.none_iff b).2 e1, e2⟩, rfl⟩, fun b cs e fr hc => ⟨cs, fr, hc, rfl⟩, rfl, rfl, rfl⟩
theorem SubT.disj {h h2 hf : AHeap} (s : SubT h h2) (D : Disj h hf) : Disj h2 hf := fun b => by
  rcases D b with e | e
  · exact .inl ((s.none_iff b).2 e)
  · exact .inr e
theorem SubT.rel {w : World} {h h2 hf : AHeap} (s : SubT h h2) (R : Rel w (h.un hf)) : Rel w (h2.un hf) := by
  intro b c hb
  have x := s.ext (w := w) (hf := hf)
  have keep : ∀ c, h2 b = h b → (h2.un hf) b = some c → ChunkOk w (h2.un hf) b c := by
    intro c e hc
    have : (h.un hf) b = some c := by
      simp only [AHeap.un_at] at hc ⊢
      rw [← e]; exact hc
    have k := R b c this
    cases c with
    | cells cs => obtain ⟨vs, ty, h1, h2, h3, h4⟩ := k; exact ⟨vs, ty, h1, h2, h3, fun i hi hj => (h4 i hi hj).ext x⟩
    | map sh es => obtain ⟨vs, cl, h1, h2, h3, h4⟩ := k; exact ⟨vs, cl, h1, h2, h3, fun i hi hj => ⟨(h4 i hi hj).1.ext x, (h4 i hi hj).2.ext x⟩⟩
    | sit s p => exact k
    | loop r t => exact ⟨k.1, fun i => (k.2 i).ext x⟩
  rcases s b with q | ⟨cs, m, q1, q2⟩
  · exact keep c q hb
  · have e0 : (h.un hf) b = some (.cells cs) := AHeap.un_some q1
    rw [AHeap.un_some q2] at hb
    cases hb
    obtain ⟨vs, ty, k1, k2, k3, k4⟩ := R b _ e0
    refine ⟨vs, ty, k1, by simp; omega, fun y hy => k3 y (List.mem_of_mem_take hy), fun i hi hj => ?_⟩
    simp only [List.getElem_take]
    exact (k4 i (by simp at hi; omega) hj).ext x
theorem SubT.stp {w : World} {h h2 hf : AHeap} (s : SubT h h2) : Stp w h hf w h2 := ⟨s.ext, fun _ _ => rfl⟩
theorem SubT.good {w : World} {h h2 hf : AHeap} {a : Act} {f : AF} {N B : Nat} (s : SubT h h2) (G : Good w h hf a f N B) : Good w h2 hf a f N B := G.step (s.disj G.disj) (s.rel G.rel) s.stp

theorem append_trunc {ts tx : TypeId} {s x : AV} (R : HRep ρ h H) (e : xappend P true h ts tx s x K = some res) : ∃ H2, SubT H H2 ∧
    match elemT P ts with
      | some (_, es, _, _) => rowT P tx = true ∧ match appXs H2 es (ren ρ x) with
        | some (k, xs) => match ren ρ s with
          | .nilsl => (k = 0 → KP ρ h.n K res .nilsl H2) ∧ (k ≠ 0 → k < 2 ^ 30 ∧ ∀ b, H2 b = none → KP ρ h.n K res (.osl b 0 k es) (H2.upd b (.cells xs)))
          | .osl b 0 n es' => es' = es ∧ n + k < 2 ^ 30 ∧ match H2 b with
            | some (.cells cs) => cs.length = n * es ∧ ∀ b', (H2.del b) b' = none → KP ρ h.n K res (.osl b' 0 (n + k) es) ((H2.del b).upd b' (.cells (cs ++ xs)))
            | _ => False
          | .osl b (off + 1) n es' => es' = es ∧ n + k < 2 ^ 30 ∧ match H2 b with
            | some (.cells cs) => cs.length = off + 1 + n * es ∧ ∀ b' (pre : List AV), (H2.del b) b' = none → KP ρ h.n K res (.osl b' pre.length (n + k) es) ((H2.del b).upd b' (.cells (pre ++ (cs.drop (off + 1) ++ xs))))
            | _ => False
          | _ => False
        | none => False
      | none => False := by
  unfold xappend at e
  split at e
  · next el es by_ z he =>
    obtain ⟨e1, e2⟩ := chk_some e
    rw [he]
    split at e2
    · next k xs hx =>
      split at e2
      · -- nil
        refine ⟨H, .refl _, e1, ?_⟩
        rw [appXs_ren R hx]
        simp only [ren]
        split at e2
        · next hk =>
          have hk0 : k = 0 := by simpa using hk
          exact ⟨fun _ => KP.here R e2, fun hne => absurd hk0 hne⟩
        · next hk =>
          have hk0 : k ≠ 0 := by intro q; subst q; simp at hk
          obtain ⟨e3, e4⟩ := chk_some e2
          exact ⟨fun q => absurd q hk0, fun _ => ⟨Nat.blt_eq.mp e3, xnew_sound R (mkr := fun b => .osl b 0 k es) (fun ρ' hs => by simp [ren, hs]) e4⟩⟩
      · next b off m es' =>
        obtain ⟨mm, c, hg, e3⟩ := cell_some e2
        split at e3
        rotate_left
        · obtain ⟨H2, s2, _, q⟩ := append_off R he hx hg e1 e3
          rw [he] at q; exact ⟨H2, s2, q⟩
        next hsw =>
        simp only [Bool.and_eq_true, Bool.not_eq_true'] at hsw
        obtain ⟨e4, e5⟩ := chk_some e3
        simp only [Bool.and_eq_true, Bool.true_and] at e4
        obtain ⟨⟨⟨⟨⟨c1, c2⟩, c3⟩, c4⟩, c6⟩, c5⟩ := e4
        have c1 : off = 0 := by simpa using c1
        have c2 : es' = es := by simpa using c2
        have c4 : m * es + xs.length < 2048 := Nat.blt_eq.mp c4
        subst c1; subst c2
        obtain ⟨hH, hm, hwf, hbd⟩ := cells_at R hg
        have hne : h.get b ≠ .gone := by rw [hg]; simp
        have hp0 : ρ.p b = [] := R.s0 b (XH.get_lt hne) hsw.2
        have hs0 : ρ.s b = 0 := by unfold Rn.s; rw [hp0]; rfl
        rw [hp0, List.nil_append] at hH
        have c3 : mm = m * es' ∨ (m * es' ≤ mm ∧ notSame b x = true) := by
          simp only [Bool.or_eq_true, Bool.and_eq_true] at c3
          rcases c3 with q | q
          · exact .inl (by simpa using q)
          · exact .inr ⟨Nat.ble_eq.mp q.1, q.2⟩
        have hle : m * es' ≤ mm := by rcases c3 with q | q; exact Nat.le_of_eq q.symm; exact q.1
        refine ⟨H.upd (ρ.b b) (.cells ((c.take (m * es') 0).map (ren ρ))), fun b2 => ?_, e1, ?_⟩
        · by_cases q : b2 = ρ.b b
          · subst q
            refine .inr ⟨_, m * es', hH, ?_⟩
            rw [AHeap.upd_same, ← List.map_take, Tr.take_take _ _ _ _ hle]
          · exact .inl (AHeap.upd_ne q)
        have hx2 : appXs (H.upd (ρ.b b) (.cells ((c.take (m * es') 0).map (ren ρ)))) es' (ren ρ x) = some (k, xs.map (ren ρ)) := by
          have q := appXs_ren R hx
          rcases c3 with q3 | ⟨_, q3⟩
          · have : H.upd (ρ.b b) (.cells ((c.take (m * es') 0).map (ren ρ))) = H := by
              funext i
              by_cases qi : i = ρ.b b
              · subst qi; rw [AHeap.upd_same, hH, q3]
              · exact AHeap.upd_ne qi
            rw [this]; exact q
          · cases x <;> first | exact q | skip
            rename_i b2 off2 n2 es2
            have hb2 : b2 ≠ b := by intro qq; subst qq; simp [notSame] at q3
            have hg2 : h.get b2 ≠ .gone := by
              intro qq
              simp [appXs, XH.a, qq] at hx
            have : ρ.b b2 ≠ ρ.b b := fun qq => hb2 (R.inj _ _ hg2 hne qq)
            simp only [ren, appXs, AHeap.upd_ne this] at q ⊢
            exact q
        rw [hx2]
        simp only [ren, hs0, AHeap.upd_same]
        refine ⟨trivial, Nat.blt_eq.mp c6, by simp [Tr.take_length], fun b' hb' => ?_⟩
        have hdel : (H.upd (ρ.b b) (.cells ((c.take (m * es') 0).map (ren ρ)))).del (ρ.b b) = H.del (ρ.b b) := by
          funext i
          by_cases qi : i = ρ.b b
          · subst qi; rw [AHeap.del_same, AHeap.del_same]
          · rw [AHeap.del_ne qi, AHeap.del_ne qi, AHeap.upd_ne qi]
        rw [hdel] at hb' ⊢
        obtain ⟨hlo, hlt, e6⟩ := set_some e5
        have R1 := R.del hlo hne
        obtain ⟨e7, e8⟩ := new_some e6
        have tk : (c.putL 11 xs (m * es')).take (m * es' + xs.length) 0 = c.take (m * es') 0 ++ xs := by
          rw [Tr.putL_take hwf (by simpa using Nat.le_of_lt c4) (Nat.le_refl _)]
          unfold splice
          rw [Tr.take_take _ _ _ _ (Nat.le_add_right _ _), List.drop_of_length_le (by simp [Tr.take_length]), List.append_nil]
        have bdx : AV.bdL h.n (c.take (m * es') 0 ++ xs) = true := by
          rw [bdL_iff] at hbd c5 ⊢
          intro a ha
          rcases List.mem_append.1 ha with q | q
          · rw [← Tr.take_take c mm 0 (m * es') hle] at q
            exact hbd a (List.mem_of_mem_take q)
          · exact c5 a q
        obtain ⟨ρ', ag, q1, q2, q3, R'⟩ := R1.new e7 hb' (c := .cells (m * es' + xs.length) (c.putL 11 xs (m * es'))) (C := .cells ((c.take (m * es') 0).map (ren ρ) ++ xs.map (ren ρ))) (by simp)
          ⟨by omega, (Tr.putL_spec 11 xs c (m * es') hwf (by omega)).1, by rw [tk]; exact bdL_mono (Nat.le_succ _) _ bdx⟩ (ρ.r 0)
          (CR.cells0 (by simp) (by
            rw [tk, List.nil_append, ← List.map_append]
            rw [map_agr (n := h.n) (ρ := ρ) Agr.new bdx]))
        exact ⟨ρ', _, _, ag, by show h.n ≤ h.n + 1; omega, R', by simp only [ren]; rw [q1, q2]; rfl, e8⟩
      · cases e2
    · cases e2
  · cases e

/-- An operation where the text's order is kept. -/
theorem xk_trunc {op : Op} (R : HRep ρ h H) (hc : ∀ f args ats, op ≠ .call { callee := .value f, args, argTypes := ats }) (hi : ∀ r m args ats, op ≠ .call { callee := .invoke r m, args, argTypes := ats }) (hf : ∀ f first caps, op = .makeFunc f first caps → ∃ g, f = .func g)
    (e : xk P true call (XK.of P fl op) t h K = some res) : ∃ H2, SubT H H2 ∧ effStep P (renF ρ t.at) H2 op (KP ρ h.n K res) := by
  by_cases happ : ∃ args ats, op = .call { callee := .builtin .append, args, argTypes := ats }
  · obtain ⟨args, ats, rfl⟩ := happ
    simp only [XK.of, xk, xeff] at e
    split at e
    · next s x ts tx ha hat =>
      obtain ⟨H2, s2, q⟩ := append_trunc R e
      exact ⟨H2, s2, by simp only [effStep, ha, hat, evalA_ren]; exact q⟩
    · cases e
  · refine ⟨H, .refl _, xk_sound (fl := fl) (call := call) R hc hi hf ?_⟩
    have gen : xeff P true t.at h op K = xeff P false t.at h op K := by
      unfold xeff
      split <;> first | rfl | exact absurd ⟨_, _, rfl⟩ happ
    rw [← e]
    cases hk : XK.of P fl op <;> first | rfl | skip
    rename_i op'
    have : op' = op := by
      unfold XK.of at hk
      split at hk <;> (repeat' split at hk) <;> first | (cases hk; rfl) | cases hk
    subst this
    exact gen.symm
end
end Go.AH
