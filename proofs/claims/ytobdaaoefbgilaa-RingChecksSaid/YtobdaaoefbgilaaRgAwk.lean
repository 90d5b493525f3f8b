/-
  Ring: awake, run by the evaluator.
-/
import Derived.Test.YtobdaaoefbgilaaAhXz
import Derived.Test.YtobdaaoefbgilaaChecked
set_option linter.unusedSimpArgs false
set_option linter.unusedVariables false
set_option linter.unusedSectionVars false
namespace Go.Proofs
open Go Go.AH
set_option maxRecDepth 100000
theorem awake_calls : ∀ f ∈ ([19, 22, 29, 30, 39, 45, 48, 49, 51, 52, 53, 54, 55, 56, 58, 59, 60, 61, 62, 63, 67, 72, 73, 74, 75, 76, 77, 78, 79, 82, 83, 84, 85] : List Nat), ∀ (args : Array Value) (w : World), (callFunc f args).run Try.prog w = .ok (.enter f args) w := by
  intro f hf
  simp only [List.mem_cons, List.not_mem_nil, or_false] at hf
  rcases hf with rfl | rfl | rfl | rfl | rfl | rfl | rfl | rfl | rfl | rfl | rfl | rfl | rfl | rfl | rfl | rfl | rfl | rfl | rfl | rfl | rfl | rfl | rfl | rfl | rfl | rfl | rfl | rfl | rfl | rfl | rfl | rfl | rfl
  · exact Try.call19
  · exact Try.call22
  · exact Try.call29
  · exact Try.call30
  · exact Try.call39
  · exact Try.call45
  · exact Try.call48
  · exact Try.call49
  · exact Try.call51
  · exact Try.call52
  · exact Try.call53
  · exact Try.call54
  · exact Try.call55
  · exact Try.call56
  · exact Try.call58
  · exact Try.call59
  · exact Try.call60
  · exact Try.call61
  · exact Try.call62
  · exact Try.call63
  · exact Try.call67
  · exact Try.call72
  · exact Try.call73
  · exact Try.call74
  · exact Try.call75
  · exact Try.call76
  · exact Try.call77
  · exact Try.call78
  · exact Try.call79
  · exact Try.call82
  · exact Try.call83
  · exact Try.call84
  · exact Try.call85
theorem awake_ev : xtrue Try.prog [19, 22, 29, 30, 39, 45, 48, 49, 51, 52, 53, 54, 55, 56, 58, 59, 60, 61, 62, 63, 67, 72, 73, 74, 75, 76, 77, 78, 79, 82, 83, 84, 85] 1000 19 = true := by kernel_rfl
theorem w_awake : Pure Try.prog 19 [] (.bool true) := xtrue_ok (by kernel_rfl) awake_calls awake_ev
end Go.Proofs
