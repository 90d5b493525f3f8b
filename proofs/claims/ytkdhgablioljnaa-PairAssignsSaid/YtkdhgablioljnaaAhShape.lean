/-
  Three kinds of plans; the run of a plan that keeps what it leaves.
-/
import Derived.Test.YtkdhgablioljnaaAhAcc
import Derived.Test.YtkdhgablioljnaaAhApp
set_option linter.unusedSimpArgs false
set_option linter.unusedVariables false
set_option linter.unusedSectionVars false
namespace Go.AH
open Go

section
variable {P : Program} {t : AF} {h : AHeap} {K : AV → AHeap → Prop}

def Shape (acc : List Nat) (p : Plan) : Prop := p.wr = none ∨ (∃ b c, p.wr = some (b, some c) ∧ p.fr = none ∧ b ∈ acc) ∨ (∃ b c, p.wr = some (b, none) ∧ p.fr = some c ∧ b ∈ acc)
theorem shape_ret {acc : List Nat} {v : AV} : Shape acc (.ret v) := .inl rfl
theorem shape_new {acc : List Nat} {c : Chunk} {v : Nat → AV} : Shape acc (.new c v) := .inl rfl
theorem shape_put {acc : List Nat} {b : Nat} {c : Chunk} {v : AV} (hb : b ∈ acc) : Shape acc (.put b c v) := .inr (.inl ⟨b, c, rfl, rfl, hb⟩)

theorem planPut_shape {ty : TypeId} {m k x : Operand} {p : Plan} (e : planPut P t h ty m k x = some p) : Shape (blkM (evalA t m)) p := by
  unfold planPut at e
  repeat' split at e
  all_goals first
    | (cases e; done)
    | skip
  next b hm _ _ _ _ _ => cases e; exact shape_put (by rw [hm]; simp [blkM])

theorem plan_shape {op : Op} {p : Plan} (e : planA P t h op = some p) : Shape (accA P t op) p := by
  cases op
  case store ty a x =>
    simp only [planA] at e
    simp only [accA]
    split at e
    · next b off ha =>
      repeat' split at e
      all_goals first
        | (cases e; done)
        | (cases e; exact shape_put (by rw [ha]; simp [blkP]))
    · cases e
  case mapUpdate ty m k x => exact planPut_shape e
  case insert ty m k x => exact planPut_shape e
  case next it str =>
    cases str
    · simp only [planA] at e
      cases hq : pureA P t h (.next it false) with
      | none => rw [hq] at e; cases e
      | some r => rw [hq] at e; cases e; exact shape_ret
    · simp only [planA] at e
      simp only [accA]
      split at e
      · next b ha =>
        repeat' split at e
        all_goals first
          | (cases e; done)
          | (cases e; exact shape_put (by rw [ha]; simp [blkP]))
          | (cases e; exact shape_ret)
      · cases e
  case makeMap ty r =>
    cases r with
    | none =>
      simp only [planA] at e
      repeat' split at e
      all_goals first
        | (cases e; done)
        | (cases e; exact shape_new)
    | some r => simp [planA, pureA] at e
  case call c =>
    obtain ⟨callee, args, ats⟩ := c
    cases callee with
    | value f => simp [planA, pureA] at e
    | invoke r m => simp [planA, pureA] at e
    | builtin bi =>
      cases bi
      case append =>
        simp only [planA] at e
        simp only [accA]
        split at e
        · next s x ts tx ha hat =>
          rw [ha]
          split at e
          · split at e
            · split at e
              · split at e
                · repeat' split at e
                  all_goals first
                    | (cases e; done)
                    | (cases e; exact shape_ret)
                    | (cases e; exact shape_new)
                · next b n es' hs =>
                  repeat' split at e
                  all_goals first
                    | (cases e; done)
                    | (cases e; exact .inr (.inr ⟨b, _, rfl, rfl, by rw [List.flatMap_cons, hs]; simp [blkS]⟩))
                · cases e
              · cases e
            · cases e
          · cases e
        · cases e
      case copy =>
        simp only [planA] at e
        simp only [accA]
        split at e
        · next s x ts tx ha hat =>
          rw [ha]
          split at e
          · split at e
            · next k xs b off n es' hx hs =>
              repeat' split at e
              all_goals first
                | (cases e; done)
                | (cases e; exact shape_put (by rw [List.flatMap_cons, hs]; simp [blkS]))
            · cases e
          · cases e
        · cases e
      all_goals
        simp only [planA] at e
        repeat' split at e
        all_goals first
          | (cases e; done)
          | (obtain ⟨r, _, rfl⟩ := Option.map_eq_some_iff.1 e; exact shape_ret)
  all_goals
    simp only [planA] at e
    repeat' split at e
    all_goals first
      | (cases e; done)
      | (cases e; exact shape_ret)
      | (cases e; exact shape_new)
      | (obtain ⟨r, _, rfl⟩ := Option.map_eq_some_iff.1 e; exact shape_ret)

theorem planPut_move {ty : TypeId} {m k x : Operand} {p : Plan} {b : Nat} (e : planPut P t h ty m k x = some p) (hw : p.wr = some (b, none)) : False := by
  unfold planPut at e
  repeat' split at e
  all_goals (cases e; try cases hw)

/-- Only an append gives a block up. -/
theorem plan_move {op : Op} {p : Plan} {b : Nat} (e : planA P t h op = some p) (hw : p.wr = some (b, none)) : ∃ args ats s x ts tx el es by_ z k xs n cs, op = .call { callee := .builtin .append, args, argTypes := ats } ∧ args.toList = [s, x] ∧ ats.toList = [ts, tx] ∧
    elemT P ts = some (el, es, by_, z) ∧ rowT P tx = true ∧ appXs h es (evalA t x) = some (k, xs) ∧ evalA t s = .osl b 0 n es ∧ h b = some (.cells cs) ∧ n + k < 2 ^ 30 ∧ cs.length = n * es ∧ p = ⟨fun b' => .osl b' 0 (n + k) es, some (b, none), some (.cells (cs ++ xs))⟩ := by
  cases op
  case mapUpdate ty m k x => exact (planPut_move e hw).elim
  case insert ty m k x => exact (planPut_move e hw).elim
  case makeMap ty r =>
    cases r with
    | none =>
      simp only [planA] at e
      repeat' split at e
      all_goals (cases e; try cases hw)
    | some r => simp [planA, pureA] at e
  case next it str =>
    cases str
    · simp only [planA] at e
      cases hq : pureA P t h (.next it false) with
      | none => rw [hq] at e; cases e
      | some r => rw [hq] at e; cases e; cases hw
    · simp only [planA] at e
      repeat' split at e
      all_goals (cases e; try cases hw)
  case call c =>
    obtain ⟨callee, args, ats⟩ := c
    cases callee with
    | value f => simp [planA, pureA] at e
    | invoke r m => simp [planA, pureA] at e
    | builtin bi =>
      cases bi
      case append =>
        simp only [planA] at e
        split at e
        · next s x ts tx ha hat =>
          split at e
          · next el es by_ z he =>
            split at e
            · next hr =>
              split at e
              · next k xs hx =>
                split at e
                · repeat' split at e
                  all_goals (cases e; try cases hw)
                · next b2 n es' hs =>
                  split at e
                  · next cs hb =>
                    split at e
                    · next hc =>
                      cases e
                      cases hw
                      obtain ⟨rfl, hc2, hc3⟩ := hc
                      exact ⟨args, ats, s, x, ts, tx, el, es', by_, z, k, xs, n, cs, rfl, ha, hat, he, hr, hx, hs, hb, hc2, hc3, rfl⟩
                    · cases e
                  · cases e
                · cases e
              · cases e
            · cases e
          · cases e
        · cases e
      all_goals
        simp only [planA] at e
        repeat' split at e
        all_goals first
          | (cases e; done)
          | (cases e; cases hw; done)
          | (obtain ⟨r, _, rfl⟩ := Option.map_eq_some_iff.1 e; cases hw)
  all_goals
    simp only [planA] at e
    repeat' split at e
    all_goals first
      | (cases e; done)
      | (cases e; cases hw; done)
      | (obtain ⟨r, _, rfl⟩ := Option.map_eq_some_iff.1 e; cases hw)

/-- The run that keeps: an append is in place, or takes a fresh block and leaves the old one as it was. -/
def Plan.runK (p : Plan) (h : AHeap) (K : AV → AHeap → Prop) : Prop := match p.wr, p.fr with
  | some (b, none), some c => K (p.v b) (h.upd b c) ∧ ∀ b', h b' = none → K (p.v b') (h.upd b' c)
  | _, _ => p.run h K

theorem effK_sound {w : World} {hf : AHeap} {ρ : Operand → Value} {o : Oper} (D : Disj h hf) (R : Rel w (h.un hf)) (hρ : RepO w (h.un hf) ρ t) {p : Plan} (hp : planA P t h o.op = some p) (hk : p.runK h K) : EffOut P w h hf ρ o K := by
  rcases plan_shape hp with h1 | ⟨b, c, h1, h2, h3⟩ | ⟨b, c, h1, h2, h3⟩
  · have : p.run h K := by unfold Plan.runK at hk; rw [h1] at hk; exact hk
    exact effStep_sound D R hρ (plan_of (by rw [hp]; exact this))
  · have : p.run h K := by unfold Plan.runK at hk; rw [h1] at hk; exact hk
    exact effStep_sound D R hρ (plan_of (by rw [hp]; exact this))
  · obtain ⟨args, ats, s, x, ts, tx, el, es, by_, z, k, xs, n, cs, ho, ha, hat, he, hr, hx, hs, hb, hsm, hl, rfl⟩ := plan_move hp h1
    obtain ⟨k1, k2⟩ := hk
    refine eff_append_keep D R hρ ho ha hat he hr hx hs hb (by omega) hsm ?_ ?_
    · rw [Nat.zero_add, List.take_of_length_le (by omega)]; exact k1
    · intro b' hb'
      rw [List.drop_zero, List.take_of_length_le (by omega)]; exact k2 b' hb'
end
end Go.AH
