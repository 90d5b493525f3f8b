/-
  Texts: WdAwk WdAw2.
-/
import Derived.Test.YtobhipohnjmnhaaWdMon
import Derived.Test.YtobhipohnjmnhaaV3
import Derived.Test.YtobhipohnjmnhaaV4
import Derived.Test.YtobhipohnjmnhaaAhIn
set_option linter.unusedSimpArgs false
set_option linter.unusedVariables false
set_option linter.unusedSectionVars false
section
/-
  Plain: what the calls of awake are: its automaton is the least one already; its first word, its third word and the number of its maps.
-/
namespace Go.Proofs
open Go Go.AH
set_option maxRecDepth 100000
set_option maxHeartbeats 4000000
def awkM : Dfa := ⟨2, [[1, 0], [1, 2], [1, 0]], [false, false, true]⟩
theorem awk_ok : awkM.ok := ⟨by decide, by decide, by decide, by decide, by decide, by decide, by decide⟩
theorem awk_least : leastF awkM = awkM := by
  refine leastF_eq ⟨1, 3, [0, 1, 2], [[1, 0], [1, 2], [1, 0]], ?_, by kernel_rfl, by kernel_rfl, rfl, ?_, by kernel_rfl⟩
  · intro j hj
    obtain rfl : j = 0 := by omega
    decide
  · intro a st ha e
    have : a = 0 ∨ a = 1 ∨ a = 2 := by omega
    rcases this with rfl | rfl | rfl
    · have h : rIter (stepC awkM (refI awkM 1).1 (someF awkM (refI awkM 1).1 (refI awkM 1).2 awkM.next.length)) (-1) awkM.k ((refI awkM 1).1.getD 0 0) 0 = some ([0], []) := by kernel_rfl
      rw [h] at e; cases e; decide
    · have h : rIter (stepC awkM (refI awkM 1).1 (someF awkM (refI awkM 1).1 (refI awkM 1).2 awkM.next.length)) (-1) awkM.k ((refI awkM 1).1.getD 0 0) 1 = some ([0, 1], [[1, 0]]) := by kernel_rfl
      rw [h] at e; cases e; decide
    · have h : rIter (stepC awkM (refI awkM 1).1 (someF awkM (refI awkM 1).1 (refI awkM 1).2 awkM.next.length)) (-1) awkM.k ((refI awkM 1).1.getD 0 0) 2 = some ([0, 1, 2], [[1, 0], [1, 2]]) := by kernel_rfl
      rw [h] at e; cases e; decide
theorem awk_first : firstF awkM = some [97, 98] := by kernel_rfl
theorem awk_words : ∃ u v, wordsF awkM 3 = [u, v, [98, 97, 98]] := by
  have h := wordsF_any awk_ok.wf 3 12 (tEnd_spec awkM awk_ok.wf 3).2.2
  have e : ∃ u v, (uptoL awkM 12).take 3 = [u, v, [98, 97, 98]] := ⟨[97, 98], [97, 97, 98], by kernel_rfl⟩
  rw [h]; exact e
def awkK : List (List UInt8) × List (List Nat) := ([[0, 1, 2], [1, 1, 1], [0, 2, 0], [2, 2, 2], [0, 0, 0]], [[1, 2], [1, 3], [1, 4], [1, 4], [1, 4]])
theorem awk_mon : monF awkM = some awkK := by
  have h5 : rIter (behind awkM) (5000 : Nat) 2 (idS 3) 5 = some awkK := by kernel_rfl
  have := rIter_stable (behind awkM) (5000 : Nat) 2 (idS 3) 5 (fun st e => by rw [h5] at e; cases e; rfl) 4996
  exact this.trans h5
end Go.Proofs

end

section
/-
  Walk: what a program must do whatever the input is.
-/
namespace Go.Proofs
open Go Go.AH
set_option maxRecDepth 10000
set_option maxHeartbeats 4000000

theorem w_awake : Pure Try.prog 22 [] (.bool true) := by
  refine pure_of (acalls_of Try.func22 rfl Try.call22 (by kernel_rfl) (by show _ ≤ (58 : Nat); simp) ?_)
  have c1 := w_Monoid awkM awk_ok
  have c2 := w_First awkM awk_ok
  have c3 := w_Words awkM awk_ok 3 (by omega) (by omega)
  rw [awk_least] at c1 c2 c3
  rw [awk_first] at c2
  rw [awk_mon] at c1
  obtain ⟨u, v, hw⟩ := awk_words
  have e3 : (3 : Int).toNat = 3 := rfl
  rw [e3, hw] at c3
  have hav : awkM.av = .agg [.int .i64 2, .sl 3 [.sl 2 [.int .i64 1, .int .i64 0], .sl 2 [.int .i64 1, .int .i64 2], .sl 2 [.int .i64 1, .int .i64 0]], .sl 3 [.bool false, .bool false, .bool true]] := rfl
  rw [hav] at c1 c2 c3
  have hK : (awkK.1.length : Int) = 5 := rfl
  simp only [hK] at c1 c2
  simp
  intro b8 hb8
  simp
  intro b9 hb9
  simp at hb9
  simp [hb9]
  intro b10 hb10
  simp at hb10
  simp [hb9, hb10]
  intro b11 hb11
  simp at hb11
  simp [hb9, hb10, hb11]
  intro b12 hb12
  simp at hb12
  simp [hb9, hb10, hb11, hb12]
  intro b1 hb1
  simp at hb1
  simp [hb9, hb10, hb11, hb12, hb1]
  refine ACalls.turn 4 (AHeap.empty.upd b1 (.cells [.int .i64 2, .sl 3 [.sl 2 [.int .i64 1, .int .i64 0], .sl 2 [.int .i64 1, .int .i64 2], .sl 2 [.int .i64 1, .int .i64 0]], .sl 3 [.bool false, .bool false, .bool true]])) (SubH.one (cs := [.int .i64 2, .osl b11 0 3 1, .osl b12 0 3 1]) 4 _ (by simp [hb9, hb10, hb11, hb12, hb1]) (by simp [frzF, hb9, hb10, hb11, hb12, hb1])) ?_
  have hargs : ([.agg [.int .i64 2, .osl b11 0 3 1, .osl b12 0 3 1]] : List AV).map (frzF 4 ((((((AHeap.empty.upd b8 (.cells [.int .i64 1, .int .i64 0])).upd b9 (.cells [.int .i64 1, .int .i64 2])).upd b10 (.cells [.int .i64 1, .int .i64 0])).upd b11 (.cells [.osl b8 0 2 1, .osl b9 0 2 1, .osl b10 0 2 1])).upd b12 (.cells [.bool false, .bool false, .bool true])).upd b1 (.cells [.int .i64 2, .osl b11 0 3 1, .osl b12 0 3 1])) (AHeap.empty.upd b1 (.cells [.int .i64 2, .sl 3 [.sl 2 [.int .i64 1, .int .i64 0], .sl 2 [.int .i64 1, .int .i64 2], .sl 2 [.int .i64 1, .int .i64 0]], .sl 3 [.bool false, .bool false, .bool true]]))) = [.agg [.int .i64 2, .sl 3 [.sl 2 [.int .i64 1, .int .i64 0], .sl 2 [.int .i64 1, .int .i64 2], .sl 2 [.int .i64 1, .int .i64 0]], .sl 3 [.bool false, .bool false, .bool true]]] := by
    simp [frzF, hb9, hb10, hb11, hb12, hb1]
  rw [hargs]
  refine c1.use ?_
  simp
  refine c2.use ?_
  simp
  refine c3.use ?_
  simp [ownS, strsA]
  exact finA_self rfl
end Go.Proofs

end
