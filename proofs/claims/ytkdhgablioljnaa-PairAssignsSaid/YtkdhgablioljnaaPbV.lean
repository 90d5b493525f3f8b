/-
  Pair: the law on assignments.
-/
import Derived.Test.YtkdhgablioljnaaPbU
set_option linter.unusedSimpArgs false
set_option linter.unusedVariables false
set_option linter.unusedSectionVars false
namespace Go.Proofs
open Go Go.AH
set_option maxRecDepth 10000
set_option maxHeartbeats 8000000

theorem l_RArePricesO (C : List (List Int)) (n : Nat) (O : OffOk C n) (u v : Nat → Int) (bu bv : Nat) (H : AHeap) (hu : H bu = some (.cells (iarr n u))) (hv : H bv = some (.cells (iarr n v))) (w : Int) :
    ACalls Try.prog 19 [.sl n (partsC C), .osl bu 0 n 1, .osl bv 0 n 1, .int .i64 w] H fun r h' => r = .bool (prB C (aL n u) (aL n v) w) ∧ h' = H := by
  have n1 := O.n1
  have aLn : ∀ f, aL n f ≠ [] := fun f e => by have := congrArg List.length e; simp at this; omega
  refine Pure.lend (k := 2) (r := .bool (prB C (aL n u) (aL n v) w)) rfl ?_ ⟨rfl, rfl⟩
  have e : ([.sl n (partsC C), .osl bu 0 n 1, .osl bv 0 n 1, .int .i64 w] : List AV).map (frzF 2 H AHeap.empty) = [.sl C.length (partsC C), intL (aL n u), intL (aL n v), .int .i64 w] := by
    simp only [List.map_cons, List.map_nil, frz_int]
    have f1 := frz_ownI (o := some bu) (l := aL n u) (h := H) (h' := AHeap.empty) (by simp [aLn]) (fun b e => by cases e; exact ⟨by rw [aL_iarr]; exact hu, by simp⟩)
    have f2 := frz_ownI (o := some bv) (l := aL n v) (h := H) (h' := AHeap.empty) (by simp [aLn]) (fun b e => by cases e; exact ⟨by rw [aL_iarr]; exact hv, by simp⟩)
    simp only [ownV_some, aL_length] at f1 f2
    rw [f1, f2, frz_sl, map_frozen partsC_frozen, O.len]
  rw [e]
  exact w_RArePrices C (by rw [O.len]; omega) _ _ (by simp; omega) (by simp; omega) w
/-- One round of the law: C is any offer. -/
structure VQ where
  k : Nat
  C : List (List Int)
theorem partsL_off {l : List (List Int)} {n : Nat} (hn : 1 ≤ n ∧ n ≤ 12) : partsL (offE l n) = .sl n (partsC (offE l n)) := partsL_ne (offE_ok hn)
end Go.Proofs
