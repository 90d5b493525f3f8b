/-
  Pair: what a program must do whatever the input is.
-/
import Derived.Test.YtkdhgablioljnaaPaDel
import Derived.Test.YtkdhgablioljnaaAhXz
import Derived.Test.YtkdhgablioljnaaChecked
set_option linter.unusedSimpArgs false
set_option linter.unusedVariables false
set_option linter.unusedSectionVars false
namespace Go.Proofs
open Go Go.AH
set_option maxRecDepth 100000
theorem awake_calls : ∀ f ∈ ([13, 21, 32, 36, 46, 54, 55, 56, 57, 58, 60, 66, 67, 69, 70, 71, 77, 78, 79, 80, 81, 82, 83, 84, 85, 86, 87, 88, 89, 90, 91, 92, 93, 94, 95, 96, 97, 98] : List Nat), ∀ (args : Array Value) (w : World), (callFunc f args).run Try.prog w = .ok (.enter f args) w := by
  intro f hf
  simp only [List.mem_cons, List.not_mem_nil, or_false] at hf
  rcases hf with rfl | rfl | rfl | rfl | rfl | rfl | rfl | rfl | rfl | rfl | rfl | rfl | rfl | rfl | rfl | rfl | rfl | rfl | rfl | rfl | rfl | rfl | rfl | rfl | rfl | rfl | rfl | rfl | rfl | rfl | rfl | rfl | rfl | rfl | rfl | rfl | rfl | rfl
  · exact Try.call13
  · exact Try.call21
  · exact Try.call32
  · exact Try.call36
  · exact Try.call46
  · exact Try.call54
  · exact Try.call55
  · exact Try.call56
  · exact Try.call57
  · exact Try.call58
  · exact Try.call60
  · exact Try.call66
  · exact Try.call67
  · exact Try.call69
  · exact Try.call70
  · exact Try.call71
  · exact Try.call77
  · exact Try.call78
  · exact Try.call79
  · exact Try.call80
  · exact Try.call81
  · exact Try.call82
  · exact Try.call83
  · exact Try.call84
  · exact Try.call85
  · exact Try.call86
  · exact Try.call87
  · exact Try.call88
  · exact Try.call89
  · exact Try.call90
  · exact Try.call91
  · exact Try.call92
  · exact Try.call93
  · exact Try.call94
  · exact Try.call95
  · exact Try.call96
  · exact Try.call97
  · exact Try.call98
theorem awake_dels : ∀ f ∈ ([57, 81] : List Nat), DelC Try.prog f := by
  intro f hf
  simp only [List.mem_cons, List.not_mem_nil, or_false] at hf
  rcases hf with rfl | rfl
  · exact del_int
  · exact del_int64
theorem awake_ev : xtrueD Try.prog ([13, 21, 32, 36, 46, 54, 55, 56, 57, 58, 60, 66, 67, 69, 70, 71, 77, 78, 79, 80, 81, 82, 83, 84, 85, 86, 87, 88, 89, 90, 91, 92, 93, 94, 95, 96, 97, 98], [57, 81]) 1000 21 = true := by kernel_rfl
theorem w_awake : Pure Try.prog 21 [] (.bool true) := xtrueD_ok (by kernel_rfl) (L := ([13, 21, 32, 36, 46, 54, 55, 56, 57, 58, 60, 66, 67, 69, 70, 71, 77, 78, 79, 80, 81, 82, 83, 84, 85, 86, 87, 88, 89, 90, 91, 92, 93, 94, 95, 96, 97, 98], [57, 81])) awake_dels awake_calls awake_ev
end Go.Proofs
