/-
  Plain laws of reached: it goes on no further once all keys have been met; no more keys than may be. The words of rows without good states.
-/
import Derived.Test.YtobhipohnjmnhaaV2
import Derived.Test.YtobhipohnjmnhaaWdRchS
set_option linter.unusedSimpArgs false
set_option linter.unusedVariables false
set_option linter.unusedSectionVars false
namespace Go.Proofs
open Go Go.AH
set_option maxRecDepth 10000
set_option maxHeartbeats 4000000

theorem rIter_stable {α : Type} [DecidableEq α] (ν : α → Nat → α) (most : Int) (k : Nat) (start : α) (F : Nat) (hE : ∀ st, rIter ν most k start F = some st → st.1.length = F) : ∀ d, rIter ν most k start (F + d) = rIter ν most k start F
  | 0 => rfl
  | d + 1 => by
    rw [← Nat.add_assoc]
    simp only [rIter, rIter_stable ν most k start F hE d]
    cases h : rIter ν most k start F with
    | none => rfl
    | some st =>
      have := hE st h
      simp only [Option.bind_some]
      rw [List.getElem?_eq_none (by omega)]
theorem rRow_most {α : Type} [DecidableEq α] (ν : α → Nat → α) (most : Nat) (x : α) (keys : List α) (hk : keys.length ≤ most) : ∀ (k : Nat) (st : List α × List Nat), rRow ν most x keys k = some st → st.1.length ≤ most
  | 0, st, e => by simp [rRow] at e; subst e; exact hk
  | k + 1, st, e => by
    rw [rRow_succ] at e
    cases h : rRow ν most x keys k with
    | none => rw [h] at e; simp [rStep] at e
    | some st' =>
      have ih := rRow_most ν most x keys hk k st' h
      rw [h] at e
      simp only [rStep, Option.bind_some] at e
      split at e
      · simp only [Option.some.injEq] at e; subst e; exact ih
      · split at e
        · cases e
        · next hne => simp only [Option.some.injEq] at e; subst e; simp; omega
theorem rIter_most {α : Type} [DecidableEq α] (ν : α → Nat → α) (most : Nat) (h1 : 1 ≤ most) (k : Nat) (start : α) : ∀ (a : Nat) (st : List α × List (List Nat)), rIter ν most k start a = some st → st.1.length ≤ most
  | 0, st, e => by simp [rIter] at e; subst e; simpa using h1
  | a + 1, st, e => by
    simp only [rIter] at e
    cases h : rIter ν most k start a with
    | none => rw [h] at e; cases e
    | some st' =>
      have ih := rIter_most ν most h1 k start a st' h
      rw [h] at e
      simp only [Option.bind_some] at e
      split at e
      · next x hx =>
        cases hr : rRow ν most x st'.1 k with
        | none => rw [hr] at e; cases e
        | some q =>
          rw [hr] at e
          simp only [Option.map_some, Option.some.injEq] at e
          subst e
          exact rRow_most ν most x st'.1 ih k q hr
      · simp only [Option.some.injEq] at e; subst e; exact ih

/-- What reached answers, if it needs no more than N keys. -/
theorem rIter_all {α : Type} [DecidableEq α] (ν : α → Nat → α) (most : Int) (k : Nat) (start : α) (N : Nat) (hN : ∀ a st, rIter ν most k start a = some st → st.1.length ≤ N) :
    ∃ F, F ≤ N + 1 ∧ 1 ≤ F ∧ (∀ a st, a < F → rIter ν most k start a = some st → a < st.1.length) ∧ (∀ st, rIter ν most k start F = some st → st.1.length = F) ∧ rIter ν most k start F = rIter ν most k start (N + 1) := by
  obtain ⟨F, F1, F2, F3, F4⟩ := rIter_end ν most k start N hN
  refine ⟨F, F1, F2, F3, F4, ?_⟩
  have := rIter_stable ν most k start F F4 (N + 1 - F)
  rw [← this]; congr 1; omega

/-- The machine of rows alone. -/
def rowsM (k : Nat) (rows : List (List Nat)) : Dfa := ⟨k, rows, List.replicate rows.length false⟩
theorem rows_wf {α : Type} [DecidableEq α] (ν : α → Nat → α) (most : Int) (k : Nat) (hk1 : 1 ≤ k) (hk4 : k ≤ 4) (start : α) (N : Nat) (hn : N < 1000000) (hN : ∀ a st, rIter ν most k start a = some st → st.1.length ≤ N) (st : List α × List (List Nat)) (e : rIter ν most k start (N + 1) = some st) : (rowsM k st.2).wf ∧ st.2.length = st.1.length ∧ st.1.length ≤ N := by
  obtain ⟨F, F1, F2, F3, F4, F5⟩ := rIter_all ν most k start N hN
  rw [← F5] at e
  have h1 := rIter_rows _ _ _ _ F _ F3 e
  have h2 := rIter_rowsok _ _ _ _ F _ e
  have h3 := F4 _ e
  have h4 := hN _ _ e
  refine ⟨⟨hk1, hk4, by simp only [rowsM]; omega, by simp only [rowsM]; omega, by simp [rowsM], fun r hr => (h2 r hr).1, fun r hr x hx => ?_⟩, by omega, h4⟩
  have := (h2 r hr).2 x hx
  simp only [rowsM]; omega
end Go.Proofs
