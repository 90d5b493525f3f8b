/-
  Plain: what the calls of awake are: its automaton is the least one already; its first word, its third word and the number of its maps.
-/
import Derived.Test.YtobhipohnjmnhaaWdMon
import Derived.Test.YtobhipohnjmnhaaWdP2
set_option linter.unusedSimpArgs false
set_option linter.unusedVariables false
set_option linter.unusedSectionVars false
namespace Go.Proofs
open Go Go.AH
set_option maxRecDepth 100000
set_option maxHeartbeats 4000000
def awkM : Dfa := ⟨2, [[1, 0], [1, 2], [1, 0]], [false, false, true]⟩
theorem awk_ok : awkM.ok := ⟨by decide, by decide, by decide, by decide, by decide, by decide, by decide⟩
theorem awk_least : leastF awkM = awkM := by
  refine leastF_eq ⟨1, 3, [0, 1, 2], [[1, 0], [1, 2], [1, 0]], ?_, by kernel_rfl, by kernel_rfl, rfl, ?_, by kernel_rfl⟩
  · intro j hj
    obtain rfl : j = 0 := by omega
    decide
  · intro a st ha e
    have : a = 0 ∨ a = 1 ∨ a = 2 := by omega
    rcases this with rfl | rfl | rfl
    · have h : rIter (stepC awkM (refI awkM 1).1 (someF awkM (refI awkM 1).1 (refI awkM 1).2 awkM.next.length)) (-1) awkM.k ((refI awkM 1).1.getD 0 0) 0 = some ([0], []) := by kernel_rfl
      rw [h] at e; cases e; decide
    · have h : rIter (stepC awkM (refI awkM 1).1 (someF awkM (refI awkM 1).1 (refI awkM 1).2 awkM.next.length)) (-1) awkM.k ((refI awkM 1).1.getD 0 0) 1 = some ([0, 1], [[1, 0]]) := by kernel_rfl
      rw [h] at e; cases e; decide
    · have h : rIter (stepC awkM (refI awkM 1).1 (someF awkM (refI awkM 1).1 (refI awkM 1).2 awkM.next.length)) (-1) awkM.k ((refI awkM 1).1.getD 0 0) 2 = some ([0, 1, 2], [[1, 0], [1, 2]]) := by kernel_rfl
      rw [h] at e; cases e; decide
theorem awk_first : firstF awkM = some [97, 98] := by kernel_rfl
theorem awk_words : ∃ u v, wordsF awkM 3 = [u, v, [98, 97, 98]] := by
  have h := wordsF_any awk_ok.wf 3 12 (tEnd_spec awkM awk_ok.wf 3).2.2
  have e : ∃ u v, (uptoL awkM 12).take 3 = [u, v, [98, 97, 98]] := ⟨[97, 98], [97, 97, 98], by kernel_rfl⟩
  rw [h]; exact e
def awkK : List (List UInt8) × List (List Nat) := ([[0, 1, 2], [1, 1, 1], [0, 2, 0], [2, 2, 2], [0, 0, 0]], [[1, 2], [1, 3], [1, 4], [1, 4], [1, 4]])
theorem awk_mon : monF awkM = some awkK := by
  have h5 : rIter (behind awkM) (5000 : Nat) 2 (idS 3) 5 = some awkK := by kernel_rfl
  have := rIter_stable (behind awkM) (5000 : Nat) 2 (idS 3) 5 (fun st e => by rw [h5] at e; cases e; rfl) 4996
  exact this.trans h5
end Go.Proofs
