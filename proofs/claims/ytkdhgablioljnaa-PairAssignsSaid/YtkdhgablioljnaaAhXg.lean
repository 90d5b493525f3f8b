/-
  The evaluator's code and calls are sound.
-/
import Derived.Test.YtkdhgablioljnaaAhXc
set_option linter.unusedSimpArgs false
set_option linter.unusedVariables false
set_option linter.unusedSectionVars false
namespace Go.AH
open Go

section
variable {P : Program} {ρ : Rn} {t : Fr} {h : XH} {H : AHeap} {res : AV × XH} {n N : Nat} {ro : Option Nat}

theorem AWP.loop {c : Code} {Q : Exit → AF → AHeap → Prop} {f : AF} (I : Nat → AF → AHeap → Prop) (n0 : Nat) (i0 : I n0 f H) (round : ∀ n f h, I n f h → AWP P ro N c (thenA (fun t' h' => ∃ n', n' < n ∧ I n' t' h') Q) f h) : AWP P ro N (.loop c) Q f H := by
  intro hf B w a G
  refine wpIn_loop_ghost (Q := fun e a' w' => To w H hf N B (Q e) a' w') (fun n a' w' => ∃ t' h', I n t' h' ∧ Good w' h' hf a' t' N B ∧ Stp w H hf w' h') n0 ⟨f, H, i0, G, .refl _ _ _⟩ ?_
  rintro n a' w' ⟨t', h', i, G', s⟩
  refine wpIn_mono (round n t' h' i hf B w' a' G') ?_
  intro ex a'' w'' T
  cases ex with
  | normal =>
    obtain ⟨t2, h2, ⟨n', hlt, i'⟩, G2, s2⟩ := T
    exact ⟨n', hlt, t2, h2, i', G2, s.trans s2⟩
  | exit id => exact T.trans s
  | goto l => exact T.trans s
  | ret => exact T.trans s
  | panic ch => exact T.trans s
  | outgrown => exact T.trans s

theorem AWP.seq {x y : Code} {Q : Exit → AF → AHeap → Prop} {f : AF} (hx : AWP P ro N x (thenA (AWP P ro N y Q) Q) f H) : AWP P ro N (.seq x y) Q f H := by
  intro hf B w a G
  refine wpIn_seq (wpIn_mono (hx hf B w a G) ?_)
  intro ex a' w' T
  cases ex with
  | normal =>
    obtain ⟨t', h', k, G', s⟩ := T
    exact wpIn_mono (k hf B w' a' G') fun e a'' w'' T' => T'.trans s
  | exit id => exact T
  | goto l => exact T
  | ret => exact T
  | panic ch => exact T
  | outgrown => exact T

theorem AWP.block {id : Nat} {c : Code} {Q : Exit → AF → AHeap → Prop} {f : AF} (hc : AWP P ro N c (blockA id Q) f H) : AWP P ro N (.block id c) Q f H := by
  intro hf B w a G
  refine wpIn_block (wpIn_mono (hc hf B w a G) ?_)
  intro ex a' w' T
  cases ex with
  | exit id' =>
    simp only [Exit.inBlock, blockA] at T ⊢
    split
    · next he => rw [if_pos he] at T; exact T
    · next he => rw [if_neg he] at T; exact T
  | normal => exact T
  | goto l => exact T
  | ret => exact T
  | panic ch => exact T
  | outgrown => exact T

theorem AWP.cond {c : Operand} {x y : Code} {Q : Exit → AF → AHeap → Prop} {f : AF} {b : Bool} (hb : evalA f c = .bool b) (hx : b = true → AWP P ro N x Q f H) (hy : b = false → AWP P ro N y Q f H) : AWP P ro N (.cond c x y) Q f H := by
  intro hf B w a G
  have hc := (hb ▸ G.eval c : Rep w (H.un hf) (a.eval c) (.bool b)).inv_bool
  cases b with
  | true => exact wpIn_cond_true hc (hx rfl hf B w a G)
  | false => exact wpIn_cond_false hc (hy rfl hf B w a G)

theorem stepR_scope {b : Frame} {a : Act} {k : List Item} {cs : List Frame} {w : World} {c : Code} : Go.step P (lone (b.atR a (.code (.scope c) :: k)) cs w) = .next (lone (b.atR a (.code c :: .inScope c :: k)) cs w) :=
  step_lone_go (by simp [Go.stepG, Go.stepG.exec, Frame.atR])
theorem stepR_inScope {b : Frame} {a : Act} {k : List Item} {cs : List Frame} {w : World} {c : Code} : Go.step P (lone (b.atR a (.inScope c :: k)) cs w) = .next (lone (b.atR a k) cs w) :=
  step_lone_go (by simp [Go.stepG, Go.stepG.exec, Frame.atR])

theorem wpIn_scope {F : Fence} {n : Nat} {c : Code} {Q : Exit → Act → World → Prop} {a : Act} {w : World} (h : c.wpIn F n P (fun e a w => (∀ l, e ≠ .goto l) ∧ Q e a w) a w) : (Code.scope c).wpIn F n P Q a w := by
  intro b k cs hro hb hr
  have h0 : (lone (b.atR a (.code (.scope c) :: k)) cs w).fenced P F := fenced_calm hb hr rfl
  obtain ⟨e, a₁, w₁, ⟨hng, hq⟩, harr⟩ := h b (.inScope c :: k) cs hro hb hr
  cases e with
  | normal => exact ⟨.normal, a₁, w₁, hq, .head h0 stepR_scope (StepsIn.trans harr (.one (fenced_calm hb hr rfl) stepR_inScope))⟩
  | exit id =>
    have hx : exitTo id (.inScope c :: k) = exitTo id k := by simp [exitTo]
    exact ⟨_, a₁, w₁, hq, fun k' hk => .head h0 stepR_scope (harr.1 k' (by rw [hx]; exact hk)),
      fun hr' hk => let ⟨k₁, h1, h2⟩ := harr.2 hr' (by rw [hx]; exact hk); ⟨k₁, h1, .head h0 stepR_scope h2⟩⟩
  | goto l => exact absurd rfl (hng l)
  | ret => exact ⟨_, a₁, w₁, hq, .of_steps (.one h0 stepR_scope) harr⟩
  | panic ch => exact ⟨_, a₁, w₁, hq, .of_steps (.one h0 stepR_scope) harr⟩
  | outgrown => exact ⟨_, a₁, w₁, hq, .of_steps (.one h0 stepR_scope) harr⟩

/-- A scope without jumps. -/
theorem AWP.scope {c : Code} {Q : Exit → AF → AHeap → Prop} {f : AF} (hc : AWP P ro N c (fun e f h => (∀ l, e ≠ .goto l) ∧ Q e f h) f H) : AWP P ro N (.scope c) Q f H := by
  intro hf B w a G
  refine wpIn_scope (wpIn_mono (hc hf B w a G) ?_)
  rintro e a' w' ⟨t', h', ⟨k1, k2⟩, G', s⟩
  exact ⟨k1, t', h', k2, G', s⟩

/-! ### The run -/
def RunOk (P : Program) (run : XRun) : Prop := ∀ (N : Nat) (inr : Bool) (c : Code) (t : Fr) (h : XH) (K : KC) (res : AV × XH) (ρ : Rn) (H : AHeap) (Q : Exit → AF → AHeap → Prop) (ro : Option Nat),
  run N inr c t h K = some res → codeOk N c = true → (inr = false → ro = none) → HRep ρ h H → FrOk h.n t →
  (∀ e ρ' t' h' H', Agr h.n ρ ρ' → h.n ≤ h'.n → HRep ρ' h' H' → FrOk h'.n t' → K e t' h' = some res → (∀ l, e ≠ .goto l) ∧ Q e (renF ρ' t'.at) H') → AWP P ro N c Q (renF ρ t.at) H

/-- Regions that draw their order. -/
def DrawOk0 (P : Program) : Prop := ∀ (call : XCall), CallOk P call → ∀ (N id : Nat) (ops : Array Oper) (l : List XD) (t : Fr) (h : XH) (K : Fr → XH → R) (res : AV × XH) (ρ : Rn) (H : AHeap) (Q : Exit → AF → AHeap → Prop) (ro : Option Nat),
  compD P ops = some l → xdops P call h l t h ⟨[], [], true⟩ K = some res → opsOk N ops = true → HRep ρ h H → FrOk h.n t →
  (∀ ρ' t' h' H', Agr h.n ρ ρ' → h.n ≤ h'.n → HRep ρ' h' H' → FrOk h'.n t' → K t' h' = some res → Q .normal (renF ρ' t'.at) H') → AWP P ro N (.region id ops true) Q (renF ρ t.at) H

def StatOk (P : Program) : Prop := ∀ (call : XCall), CallOk P call → ∀ (N id : Nat) (ops : Array Oper) (l : List XO) (t : Fr) (h : XH) (K : Fr → XH → R) (res : AV × XH) (ρ : Rn) (H : AHeap) (Q : Exit → AF → AHeap → Prop) (ro : Option Nat),
  statD P ops = true → compL P [] ops (opersOf ops (ordOf P [] ops.toList)) = some l → xops P false call l t h K = some res → opsOk N ops = true → HRep ρ h H → FrOk h.n t →
  (∀ ρ' t' h' H', Agr h.n ρ ρ' → h.n ≤ h'.n → HRep ρ' h' H' → FrOk h'.n t' → K t' h' = some res → Q .normal (renF ρ' t'.at) H') → AWP P ro N (.region id ops true) Q (renF ρ t.at) H
def DrawOk (P : Program) : Prop := DrawOk0 P ∧ StatOk P

theorem xentry_some {n : Nat} {K : Fr → R} : ∀ (as : List AV) (i : Nat) (t : Fr), xentry n i as t K = some res → FrOk n t → ∃ t', K t' = some res ∧ FrOk n t' ∧ ∀ ρ j, renF ρ t'.at j = if i ≤ j ∧ j < i + as.length then (as.map (ren ρ)).getD (j - i) .undef else renF ρ t.at j
  | [], i, t, e, F => ⟨t, e, F, fun ρ j => by rw [if_neg (by simp)]⟩
  | a :: as, i, t, e, F => by
    simp only [xentry] at e
    obtain ⟨t1, e1, h1⟩ := xput_some e
    obtain ⟨F1, q1⟩ := h1 F
    obtain ⟨t', e2, F2, q2⟩ := xentry_some as (i + 1) t1 e1 F1
    refine ⟨t', e2, F2, fun ρ j => ?_⟩
    rw [q2, q1]
    simp only [AF.putO, AF.put, List.length_cons, List.map_cons]
    by_cases hj : j = i
    · subst hj; rw [if_neg (by omega), if_pos rfl, if_pos (by omega)]; simp
    · by_cases hc : i + 1 ≤ j ∧ j < i + 1 + as.length
      · rw [if_pos hc, if_pos (by omega), show j - i = (j - (i + 1)) + 1 from by omega, List.getD_cons_succ]
      · rw [if_neg hc, if_neg hj, if_neg (by omega)]

theorem xputs_some {n : Nat} {K : Fr → R} : ∀ (ps : List Nat) (as : List AV) (t : Fr), xputs n ps as t K = some res → FrOk n t → ∃ t', K t' = some res ∧ FrOk n t' ∧ ∀ ρ, renF ρ t'.at = putsA (renF ρ t.at) ps (as.map (ren ρ))
  | p :: ps, a :: as, t, e, F => by
    simp only [xputs] at e
    obtain ⟨t1, e1, h1⟩ := xput_some e
    obtain ⟨F1, q1⟩ := h1 F
    obtain ⟨t', e2, F2, q2⟩ := xputs_some ps as t1 e1 F1
    refine ⟨t', e2, F2, fun ρ => ?_⟩
    rw [q2, q1]; rfl
  | [], as, t, e, F => ⟨t, by cases as <;> exact e, F, fun ρ => by cases as <;> rfl⟩
  | p :: ps, [], t, e, F => ⟨t, e, F, fun ρ => rfl⟩

theorem resultsA_ren {t : AF} {rs : List ResultVar} {v : AV} (R : HRep ρ h H) (e : resultsA P t h.a rs = some v) : resultsA P (renF ρ t) H rs = some (ren ρ v) := by
  have hA : ∀ (x : ResultVar) (v : AV), resA P t h.a x = some v → resA P (renF ρ t) H x = some (ren ρ v) := by
    intro x v e
    cases x with
    | tmp i => simp only [resA, Option.some.injEq] at e; subst e; rfl
    | cell a ty =>
      simp only [resA] at e
      split at e
      · next b off ha =>
        split at e
        · next cs hb =>
          obtain ⟨pre, hp, hH⟩ := R.hr.cells b cs hb
          simp only [resA, renF, ha, ren, hH, drop_pre hp, ← List.map_drop, loadA_ren, e, Option.map_some]
        · cases e
      · next cells ha => simp only [resA, renF, ha, ren, renL_eq, loadA_ren, e, Option.map_some]
      · cases e
  have hL : ∀ (rs : List ResultVar) (vs : List AV), resL P t h.a rs = some vs → resL P (renF ρ t) H rs = some (vs.map (ren ρ)) := by
    intro rs
    induction rs with
    | nil => intro vs e; simp only [resL, Option.some.injEq] at e; subst e; rfl
    | cons r rs ih =>
      intro vs e
      simp only [resL] at e
      split at e
      · next v vs' hv hvs => cases e; simp only [resL, hA _ _ hv, ih _ hvs, List.map_cons]
      · cases e
  unfold resultsA at e ⊢
  cases hl : resL P t h.a rs with
  | none => rw [hl] at e; cases e
  | some vs =>
    rw [hl] at e
    rw [hL rs vs hl]
    cases vs with
    | nil => simp only at e ⊢; cases e; simp [ren]
    | cons a as =>
      cases as with
      | nil => simp only [List.map_cons, List.map_nil] at e ⊢; cases e; rfl
      | cons b bs => simp only [List.map_cons] at e ⊢; cases e; simp [ren]
end
end Go.AH
