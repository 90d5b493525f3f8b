/-
  The blocks that an operation touches.
-/
import Derived.Test.YtkdhgablioljnaaAhPlan
set_option linter.unusedSimpArgs false
set_option linter.unusedVariables false
set_option linter.unusedSectionVars false
namespace Go.AH
open Go

section
variable {P : Program} {t : AF} {h h' : AHeap}

/-! ### The blocks that are touched -/
def blkP : AV → List Nat | .ptr b _ => [b] | _ => []
def blkS : AV → List Nat | .osl b _ _ _ => [b] | _ => []
def blkM : AV → List Nat | .map b => [b] | _ => []
def accA (P : Program) (t : AF) : Op → List Nat
  | .load _ a => blkP (evalA t a)
  | .store _ a _ => blkP (evalA t a)
  | .lookup _ m _ _ => blkM (evalA t m)
  | .mapUpdate _ m _ _ => blkM (evalA t m)
  | .insert _ m _ _ => blkM (evalA t m)
  | .next it true => blkP (evalA t it)
  | .convert _ _ x => blkS (evalA t x)
  | .slice ty x _ _ none => match P.underlying ty with | some (.array _ _) => blkP (evalA t x) | _ => []
  | .call { callee := .builtin .len, args, argTypes } => match args.toList, argTypes.toList with
    | [x], [ty] => (match P.underlying ty with | some (.map _ _) => blkM (evalA t x) | _ => [])
    | _, _ => []
  | .call { callee := .builtin .append, args, .. } => args.toList.flatMap fun x => blkS (evalA t x)
  | .call { callee := .builtin .copy, args, .. } => args.toList.flatMap fun x => blkS (evalA t x)
  | _ => []

theorem appXs_cong {es : Nat} {x : AV} (e : ∀ b ∈ blkS x, h b = h' b) : appXs h es x = appXs h' es x := by
  cases x <;> first | rfl | skip
  rename_i b off n es'
  simp only [appXs, e b (by simp [blkS])]
theorem cellsOf_cong {x : AV} (e : ∀ b ∈ blkS x, h b = h' b) : cellsOfSlice h x = cellsOfSlice h' x := by
  cases x <;> first | rfl | skip
  rename_i b off n es'
  simp only [cellsOfSlice, e b (by simp [blkS])]
theorem planPut_cong {ty : TypeId} {m k x : Operand} (e : ∀ b ∈ blkM (evalA t m), h b = h' b) : planPut P t h ty m k x = planPut P t h' ty m k x := by
  unfold planPut
  split
  · split
    · next b hm =>
      rw [hm] at e
      rw [e b (by simp [blkM])]
    · rfl
  · rfl
theorem convA_cong {s d : TypeId} {x : AV} (e : ∀ b ∈ blkS x, h b = h' b) : convA P h s d x = convA P h' s d x := by
  unfold convA
  split
  · rfl
  · rfl
  · rfl
  · split
    · rfl
    · next b off n es hu => rw [cellsOf_cong e]
    · rfl
    · rfl
  · rfl
theorem lenA_cong {ty : TypeId} {x : AV} (e : ∀ b ∈ (match P.underlying ty with | some (.map _ _) => blkM x | _ => []), h b = h' b) : lenA P h ty x = lenA P h' ty x := by
  unfold lenA
  split
  all_goals first
    | rfl
    | skip
  next b hu =>
    rw [hu] at e
    rw [e b (by simp [blkM])]
theorem arrSliceA_cong {n : Nat} {el : TypeId} {x : AV} {lo hi : Option AV} (e : ∀ b ∈ blkP x, h b = h' b) : arrSliceA P h n el x lo hi = arrSliceA P h' n el x lo hi := by
  unfold arrSliceA
  split
  · split
    · split
      · rfl
      · next b off => rw [e b (by simp [blkP])]
      · rfl
    · rfl
  · rfl

/-- A plan hangs on the blocks alone that are touched. -/
theorem plan_cong {op : Op} (e : ∀ b ∈ accA P t op, h b = h' b) : planA P t h op = planA P t h' op := by
  cases op <;> first | rfl | skip
  case makeMap ty r => cases r <;> rfl
  case load ty a =>
    simp only [accA] at e
    simp only [planA, pureA]
    split
    · next b off ha => rw [ha] at e; rw [e b (by simp [blkP])]
    · rfl
    · rfl
  case store ty a x =>
    simp only [accA] at e
    simp only [planA]
    split
    · next b off ha => rw [ha] at e; rw [e b (by simp [blkP])]
    · rfl
  case lookup ty m k ok =>
    simp only [accA] at e
    simp only [planA]
    split
    · split
      · next z b hz hm => rw [hm] at e; rw [e b (by simp [blkM])]
      · rfl
    · rfl
  case mapUpdate ty m k x => exact planPut_cong e
  case insert ty m k x => exact planPut_cong e
  case next it str =>
    cases str
    · rfl
    · simp only [accA] at e
      simp only [planA]
      split
      · next b ha => rw [ha] at e; rw [e b (by simp [blkP])]
      · rfl
  case convert s d x =>
    simp only [accA] at e
    simp only [planA, pureA, convA_cong e]
  case slice ty x lo hi mx =>
    cases mx with
    | some m => rfl
    | none =>
      simp only [planA, pureA]
      simp only [accA] at e
      split
      · next n el hu => rw [hu] at e; rw [arrSliceA_cong e]
      · rfl
  case call c =>
    obtain ⟨callee, args, ats⟩ := c
    cases callee with
    | value f => rfl
    | invoke r m => rfl
    | builtin b =>
      cases b <;> first | rfl | skip
      case len =>
        simp only [accA] at e
        simp only [planA, pureA]
        split
        · next x ty ha hat =>
          rw [ha, hat] at e
          rw [lenA_cong e]
        · rfl
      case append =>
        simp only [accA] at e
        simp only [planA]
        split
        · next s x ts tx ha hat =>
          rw [ha] at e
          have e1 : ∀ b ∈ blkS (evalA t s), h b = h' b := fun b hb => e b (by simp [hb])
          have e2 : ∀ b ∈ blkS (evalA t x), h b = h' b := fun b hb => e b (by simp [hb])
          split
          · rw [appXs_cong e2]
            split
            · split
              · split
                · rfl
                · next b n es' hs => rw [hs] at e1; rw [e1 b (by simp [blkS])]
                · rfl
              · rfl
            · rfl
          · rfl
        · rfl
      case copy =>
        simp only [accA] at e
        simp only [planA]
        split
        · next s x ts tx ha hat =>
          rw [ha] at e
          have e1 : ∀ b ∈ blkS (evalA t s), h b = h' b := fun b hb => e b (by simp [hb])
          have e2 : ∀ b ∈ blkS (evalA t x), h b = h' b := fun b hb => e b (by simp [hb])
          split
          · rw [appXs_cong e2]
            split
            · next k xs b off n es' hx hs => rw [hs] at e1; rw [e1 b (by simp [blkS])]
            · rfl
          · rfl
        · rfl

/-- Where there is a plan, what is touched is there. -/
theorem plan_pres {op : Op} {p : Plan} (e : planA P t h op = some p) : ∀ b ∈ accA P t op, h b ≠ none := by
  intro b hb hn
  have P1 : ∀ {v : AV}, b ∈ blkP v → ∃ off, v = .ptr b off := by
    intro v hv
    cases v <;> simp [blkP] at hv
    exact ⟨_, by rw [hv]⟩
  have S1 : ∀ {v : AV}, b ∈ blkS v → ∃ off n es, v = .osl b off n es := by
    intro v hv
    cases v <;> simp [blkS] at hv
    exact ⟨_, _, _, by rw [hv]⟩
  have M1 : ∀ {v : AV}, b ∈ blkM v → v = .map b := by
    intro v hv
    cases v <;> simp [blkM] at hv
    rw [hv]
  have X1 : ∀ {es : Nat} {v : AV}, b ∈ blkS v → appXs h es v = none := by
    intro es v hv
    obtain ⟨off, n, es', rfl⟩ := S1 hv
    simp [appXs, hn]
  have Q1 : ∀ {ty : TypeId} {m k x : Operand}, b ∈ blkM (evalA t m) → planPut P t h ty m k x = none := by
    intro ty m k x hv
    unfold planPut
    split
    · rw [M1 hv]; simp [hn]
    · rfl
  cases op <;> simp only [accA] at hb <;> first | (cases hb; done) | skip
  case load ty a =>
    obtain ⟨off, ha⟩ := P1 hb
    simp [planA, pureA, ha, hn] at e
  case store ty a x =>
    obtain ⟨off, ha⟩ := P1 hb
    simp [planA, ha, hn] at e
  case lookup ty m k ok =>
    have hm := M1 hb
    simp only [planA, hm] at e
    split at e
    · split at e
      · next z b' hz hm' => cases hm'; simp [hn] at e
      · cases e
    · cases e
  case mapUpdate ty m k x => rw [show planA P t h (.mapUpdate ty m k x) = planPut P t h ty m k x from rfl, Q1 hb] at e; cases e
  case insert ty m k x => rw [show planA P t h (.insert ty m k x) = planPut P t h ty m k x from rfl, Q1 hb] at e; cases e
  case next it str =>
    cases str
    · cases hb
    · simp only [accA] at hb
      obtain ⟨off, ha⟩ := P1 hb
      simp only [planA, ha] at e
      split at e
      · next b' hq => cases hq; simp [hn] at e
      · cases e
  case convert s d x =>
    obtain ⟨off, n, es, hx⟩ := S1 hb
    simp only [planA, pureA, hx] at e
    have : convA P h s d (.osl b off n es) = none := by
      unfold convA
      split
      · next hq => cases hq
      · next hq => cases hq
      · next hq => cases hq
      · split
        · next hq => cases hq
        · next hq => cases hq; simp [cellsOfSlice, hn]
        · next hq => cases hq
        · rfl
      · rfl
    rw [this] at e; cases e
  case slice ty x lo hi mx =>
    cases mx with
    | some m => cases hb
    | none =>
      simp only [accA] at hb
      split at hb
      · next n el hu =>
        obtain ⟨off, hx⟩ := P1 hb
        simp only [planA, pureA, hu, hx] at e
        have : arrSliceA P h n el (.ptr b off) (lo.map (evalA t)) (hi.map (evalA t)) = none := by
          unfold arrSliceA
          split
          · split
            · simp [hn]
            · rfl
          · rfl
        rw [this] at e; cases e
      · cases hb
  case call c =>
    obtain ⟨callee, args, ats⟩ := c
    cases callee with
    | value f => cases hb
    | invoke r m => cases hb
    | builtin bi =>
      cases bi <;> first | (cases hb; done) | skip
      case len =>
        simp only at hb
        split at hb
        · next x ty ha hat =>
          split at hb
          · next kt et hu =>
            have hx := M1 hb
            simp [planA, pureA, ha, hat, lenA, hu, hx, hn] at e
          · cases hb
        · cases hb
      case append =>
        simp only at hb
        simp only [planA] at e
        split at e
        · next s x ts tx ha hat =>
          rw [ha] at hb
          simp only [List.flatMap_cons, List.flatMap_nil, List.append_nil, List.mem_append] at hb
          split at e
          · split at e
            · split at e
              · next k xs hx =>
                rcases hb with hb | hb
                · obtain ⟨off, n, es, hs⟩ := S1 hb
                  rw [hs] at e
                  split at e
                  · next hq => cases hq
                  · next hq => cases hq; simp [hn] at e
                  · cases e
                · rw [X1 hb] at hx; cases hx
              · cases e
            · cases e
          · cases e
        · cases e
      case copy =>
        simp only at hb
        simp only [planA] at e
        split at e
        · next s x ts tx ha hat =>
          rw [ha] at hb
          simp only [List.flatMap_cons, List.flatMap_nil, List.append_nil, List.mem_append] at hb
          split at e
          · split at e
            · next k xs b2 off n es' hx hs =>
              rcases hb with hb | hb
              · obtain ⟨off2, n2, es2, hs2⟩ := S1 hb
                rw [hs2] at hs
                cases hs
                simp [hn] at e
              · rw [X1 hb] at hx; cases hx
            · cases e
          · cases e
        · cases e
end
end Go.AH
