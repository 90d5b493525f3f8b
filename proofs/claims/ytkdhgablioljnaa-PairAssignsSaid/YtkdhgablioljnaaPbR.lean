/-
  Pair: offers that are none; lists that are the same.
-/
import Derived.Test.YtkdhgablioljnaaPbO
set_option linter.unusedSimpArgs false
set_option linter.unusedVariables false
set_option linter.unusedSectionVars false
namespace Go.Proofs
open Go Go.AH
set_option maxRecDepth 10000
set_option maxHeartbeats 4000000

theorem w_AssignE (C : List (List Int)) (hl : C.length ≤ 4611686018427387904) (hr : ∀ r ∈ C, r.length ≤ 4611686018427387904) (e : chkO C ≠ 0) : Pure Try.prog 13 [.sl C.length (partsC C)] (.tup [.nilsl, .int .i64 0, .int .i64 (chkO C)]) := by
  refine pure_of (acalls_of Try.func13 rfl Try.call13 (by kernel_rfl) (by show _ ≤ (77 : Nat); simp) ?_)
  have cc := w_checkOffer C hl hr
  simp
  refine cc.use ?_
  simp [e]
  exact finA_drop rfl
theorem w_PricesE (C : List (List Int)) (hl : C.length ≤ 4611686018427387904) (hr : ∀ r ∈ C, r.length ≤ 4611686018427387904) (e : chkO C ≠ 0) : Pure Try.prog 14 [.sl C.length (partsC C)] (.tup [.nilsl, .nilsl, .int .i64 (chkO C)]) := by
  refine pure_of (acalls_of Try.func14 rfl Try.call14 (by kernel_rfl) (by show _ ≤ (19 : Nat); simp) ?_)
  have cc := w_checkOffer C hl hr
  simp
  refine cc.use ?_
  simp [e]
  exact finA_drop rfl
theorem l_same (l : List Int) (hl : l.length ≤ 1000000) : Pure Try.prog 18 [intL l, intL l] (.bool true) := by
  refine pure_of (acalls_of Try.func18 rfl Try.call18 (by kernel_rfl) (by show _ ≤ (26 : Nat); simp) ?_)
  simp [-lenA, lenA_intL]
  refine awp_loop_g (γ := Nat) (fun i t h => (i ≤ l.length) ∧ t 0 = intL l ∧ t 1 = intL l ∧ t 5 = .int .i64 i ∧ h = AHeap.empty) (fun i => l.length - i) (0) (turnA_self (by simp)) ?_
  rintro i t h ⟨hi, h0, h1, h5, rfl⟩
  by_cases hlt : i < l.length
  · have hltI : (i : Int) < (l.length : Int) := by omega
    have hwi : IntKind.i64.wrap ((i : Int) + 1) = (i : Int) + 1 := wrap_i64 (by omega) (by omega)
    obtain ⟨x, hx⟩ : ∃ x, l[i]? = some x := ⟨_, List.getElem?_eq_getElem hlt⟩
    have hat := intC_at hx
    simp [h0, h1, h5, hlt, hltI, intL_ne hlt]
    refine awp_draw_text (by kernel_rfl) [] [] (by kernel_rfl) (by kernel_rfl) (by simp) ?_
    simp [h0, h1, h5, hlt, hltI, intL_ne hlt, hat]
    exact turnA_self ⟨i + 1, by omega, by omega, by simp [h0, h1, h5, hwi, intL_ne hlt]⟩
  · obtain rfl : i = l.length := by omega
    simp [h0, h1, h5, -lenA, lenA_intL]
    exact finA_drop rfl
end Go.Proofs
