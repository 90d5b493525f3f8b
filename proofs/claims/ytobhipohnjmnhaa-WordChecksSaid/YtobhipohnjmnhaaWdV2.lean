import Derived.Test.YtobhipohnjmnhaaV4
import Derived.Test.YtobhipohnjmnhaaWdB
set_option linter.unusedSimpArgs false
set_option linter.unusedVariables false
set_option linter.unusedSectionVars false
/-! # word: Words and Count, whatever the numbers are. -/
set_option maxRecDepth 100000
set_option maxHeartbeats 4000000
namespace Go.Proofs
open Go Go.AH
theorem w_Words_bad (m : Dfa) (hm : m.ok) (most : Int) (hw : most < 1 ∨ 1000 < most) : Pure Try.prog 20 [m.av, .int .i64 most] (.tup [.nilsl, .int .i64 1]) := by
  refine pure_of (acalls_of Try.func20 rfl Try.call20 (by kernel_rfl) (by show _ ≤ (34 : Nat); simp) ?_)
  have c1 := w_check m hm
  simp only [Dfa.av] at c1 ⊢
  simp
  intro b2 hb2
  simp
  intro b3 hb3
  simp at hb3
  simp [hb3]
  refine c1.use ?_
  by_cases e1 : most < 1
  · simp [e1, hb3]
    exact finA_self rfl
  · have e2 : 1000 < most := by omega
    simp [e1, e2, hb3]
    exact finA_self rfl
theorem w_Count (m : Dfa) (hm : m.ok) (n : Nat) (h30 : n ≤ 30) : Pure Try.prog 18 [m.av, .int .i64 n] (.tup [.int .i64 ((cntF m n).getD 0 0), .int .i64 0]) := w_count m hm n h30 w_check
theorem w_Count_bad (m : Dfa) (hm : m.ok) (n : Int) (hn : n < 0 ∨ 30 < n) : Pure Try.prog 18 [m.av, .int .i64 n] (.tup [.int .i64 0, .int .i64 1]) := by
  refine pure_of (acalls_of Try.func18 rfl Try.call18 (by kernel_rfl) (by show _ ≤ (80 : Nat); simp) ?_)
  have c1 := w_check m hm
  simp only [Dfa.av] at c1 ⊢
  simp
  intro b2 hb2
  simp
  refine c1.use ?_
  by_cases e1 : n < 0
  · simp [e1]
    exact finA_self rfl
  · have e2 : 30 < n := by omega
    simp [e1, e2]
    exact finA_self rfl
end Go.Proofs
