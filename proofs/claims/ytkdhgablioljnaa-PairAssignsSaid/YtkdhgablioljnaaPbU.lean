/-
  Pair: the reference's assignment is the program's.
-/
import Derived.Test.YtkdhgablioljnaaPbT
set_option linter.unusedSimpArgs false
set_option linter.unusedVariables false
set_option linter.unusedSectionVars false
namespace Go.Proofs
open Go Go.AH
set_option maxRecDepth 10000
set_option maxHeartbeats 4000000

theorem frN_nil {n : Nat} : frN n [] = List.range n := by unfold frN; simp
theorem subC_all {C : List (List Int)} {n : Nat} (O : OffOk C n) : subC C 0 (List.range n) = C := by
  unfold subC
  rw [List.drop_zero]
  refine List.ext_getElem (by simp) fun i h1 h2 => ?_
  rw [List.getElem_map]
  have hr := O.rows C[i] (List.getElem_mem h2)
  refine List.ext_getElem (by simp [hr]) fun k h3 h4 => ?_
  rw [List.getElem_map, List.getElem_range]
  unfold lF
  rw [List.getElem?_eq_getElem h4]; rfl
theorem w_RAssign (C : List (List Int)) (n : Nat) (O : OffOk C n) : Pure Try.prog 17 [.sl n (partsC C)] (.tup [intL (gB n C ((List.range n).map fun i : Nat => (i : Int))), .int .i64 (optV n (cF C))]) := by
  refine pure_of (acalls_of Try.func17 rfl Try.call17 (by kernel_rfl) (by show _ ≤ (8 : Nat); simp) ?_)
  have c := w_rassign C n O n 0 (by omega) [] rfl List.nodup_nil (fun x hx => nomatch hx) none AHeap.empty (by simp) (fun b e => nomatch e)
  rw [frN_nil, subC_all O] at c
  unfold nI at c
  rw [ownV_none] at c
  simp
  refine ACalls.mono c ?_
  rintro _ _ ⟨rfl, rfl⟩
  simp
  exact finA_drop rfl
end Go.Proofs
