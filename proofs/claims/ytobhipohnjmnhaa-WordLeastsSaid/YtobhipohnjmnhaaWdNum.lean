/-
  Maps that number keys: what a lookup gives, what an insertion leaves.
-/
import Derived.Test.YtobhipohnjmnhaaTy
set_option linter.unusedSimpArgs false
set_option linter.unusedVariables false
set_option linter.unusedSectionVars false
namespace Go.Proofs
open Go Go.AH
set_option linter.unusedSectionVars false

section
variable {α : Type} [DecidableEq α]
/-- Different keys among the first n, in the order in which they come. -/
def ddF (κ : Nat → α) : Nat → List α
  | 0 => []
  | n + 1 => if κ n ∈ ddF κ n then ddF κ n else ddF κ n ++ [κ n]
def ixF (D : List α) (x : α) : Nat := D.idxOf x
@[simp] theorem ixF_one {x : α} : ixF [x] x = 0 := by simp [ixF]
/-- The keys' numbers. -/
def clsF (κ : Nat → α) : Nat → List Nat
  | 0 => []
  | n + 1 => clsF κ n ++ [ixF (ddF κ (n + 1)) (κ n)]
theorem clsF_len (κ : Nat → α) (n : Nat) : (clsF κ n).length = n := by induction n <;> simp [clsF, *]
theorem ddF_le (κ : Nat → α) (n : Nat) : (ddF κ n).length ≤ n := by
  induction n with
  | zero => simp [ddF]
  | succ n ih =>
    simp only [ddF]
    split
    · omega
    · simp only [List.length_append, List.length_singleton]; omega
def numE (enc : α → AV) (D : List α) (j : Nat) : List (AV × AV) := (D.zipIdx j).map fun p => (enc p.1, .int .i64 (p.2 : Int))
theorem numE_len (enc : α → AV) (D : List α) (j : Nat) : (numE enc D j).length = D.length := by simp [numE]
theorem numE_cons (enc : α → AV) (x : α) (D : List α) (j : Nat) : numE enc (x :: D) j = (enc x, .int .i64 (j : Int)) :: numE enc D (j + 1) := by simp [numE, List.zipIdx_cons]
theorem mapGet_num (enc : α → AV) (hi : ∀ x y, enc x = enc y → x = y) (x : α) : ∀ (D : List α) (j : Nat), mapGet (numE enc D j) (enc x) = if x ∈ D then some (.int .i64 ((j + ixF D x : Nat) : Int)) else none
  | [], j => by simp [numE, mapGet]
  | y :: D, j => by
    rw [numE_cons]
    simp only [mapGet]
    by_cases e : y = x
    · subst e; simp [ixF]
    · have e1 : ¬ enc y = enc x := fun q => e (hi _ _ q)
      have e2 : ¬ x = y := fun q => e q.symm
      rw [if_neg e1, mapGet_num enc hi x D (j + 1)]
      simp only [List.mem_cons, e2, false_or]
      split
      · congr 3
        have : ixF (y :: D) x = ixF D x + 1 := by
          unfold ixF
          rw [List.idxOf_cons, cond_eq_ite, if_neg (by simpa using e)]
        omega
      · rfl
theorem mapSet_num (enc : α → AV) (hi : ∀ x y, enc x = enc y → x = y) (x : α) : ∀ (D : List α) (j : Nat), x ∉ D → mapSet (numE enc D j) (enc x) (.int .i64 ((j + D.length : Nat) : Int)) = numE enc (D ++ [x]) j
  | [], j, _ => by simp [numE, mapSet]
  | y :: D, j, hx => by
    simp only [List.mem_cons, not_or] at hx
    have e1 : ¬ enc y = enc x := fun q => hx.1 (hi _ _ q).symm
    rw [numE_cons, List.cons_append, numE_cons]
    simp only [mapSet]
    rw [if_neg e1, ← mapSet_num enc hi x D (j + 1) hx.2]
    simp only [List.length_cons]
    rw [show j + (D.length + 1) = j + 1 + D.length from by omega]
theorem idx_app_mem {D E : List α} {x : α} (h : x ∈ D) : ixF (D ++ E) x = ixF D x := by
  unfold ixF
  rw [List.idxOf_append]; simp [h]
theorem idx_app_new {D : List α} {x : α} (h : x ∉ D) : ixF (D ++ [x]) x = D.length := by
  unfold ixF
  rw [List.idxOf_append]; simp [h]
end
end Go.Proofs
