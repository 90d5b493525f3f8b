/-
  Flow: awake, run by the evaluator.
-/
import Derived.Test.YtpnikgfpcgaboaaAhXz
import Derived.Test.YtpnikgfpcgaboaaChecked
set_option linter.unusedSimpArgs false
set_option linter.unusedVariables false
set_option linter.unusedSectionVars false
namespace Go.Proofs
open Go Go.AH
set_option maxRecDepth 100000
theorem awake_calls : ∀ f ∈ ([16, 18, 43, 49, 50, 52, 53, 54, 55, 56, 60, 65, 66, 67, 68, 69, 71, 72, 73, 74, 75, 76, 77, 78, 82, 83, 84, 88, 122, 123, 124, 125, 126, 127] : List Nat), ∀ (args : Array Value) (w : World), (callFunc f args).run Try.prog w = .ok (.enter f args) w := by
  intro f hf
  simp only [List.mem_cons, List.not_mem_nil, or_false] at hf
  rcases hf with rfl | rfl | rfl | rfl | rfl | rfl | rfl | rfl | rfl | rfl | rfl | rfl | rfl | rfl | rfl | rfl | rfl | rfl | rfl | rfl | rfl | rfl | rfl | rfl | rfl | rfl | rfl | rfl | rfl | rfl | rfl | rfl | rfl | rfl
  · exact Try.call16
  · exact Try.call18
  · exact Try.call43
  · exact Try.call49
  · exact Try.call50
  · exact Try.call52
  · exact Try.call53
  · exact Try.call54
  · exact Try.call55
  · exact Try.call56
  · exact Try.call60
  · exact Try.call65
  · exact Try.call66
  · exact Try.call67
  · exact Try.call68
  · exact Try.call69
  · exact Try.call71
  · exact Try.call72
  · exact Try.call73
  · exact Try.call74
  · exact Try.call75
  · exact Try.call76
  · exact Try.call77
  · exact Try.call78
  · exact Try.call82
  · exact Try.call83
  · exact Try.call84
  · exact Try.call88
  · exact Try.call122
  · exact Try.call123
  · exact Try.call124
  · exact Try.call125
  · exact Try.call126
  · exact Try.call127
theorem awake_ev : xtrue Try.prog [16, 18, 43, 49, 50, 52, 53, 54, 55, 56, 60, 65, 66, 67, 68, 69, 71, 72, 73, 74, 75, 76, 77, 78, 82, 83, 84, 88, 122, 123, 124, 125, 126, 127] 1000 16 = true := by kernel_rfl
theorem w_awake : Pure Try.prog 16 [] (.bool true) := xtrue_ok (by kernel_rfl) awake_calls awake_ev
end Go.Proofs
