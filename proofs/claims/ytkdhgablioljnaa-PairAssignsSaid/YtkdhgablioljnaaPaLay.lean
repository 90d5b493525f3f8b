/-
  slices.Delete at this translation. Written by a program (laydel.py).
-/
import Derived.Test.YtkdhgablioljnaaA3
import Derived.Test.YtkdhgablioljnaaProg
import Derived.KernelRfl
import Derived.Shelf.SlicesG.Delete
set_option linter.unusedSimpArgs false
set_option linter.unusedVariables false
set_option linter.unusedSectionVars false
namespace Go.Proofs
open Go Go.AH
set_option maxRecDepth 100000
def dlTi : Nat → Nat
  | 0 => 0
  | 3 => 3
  | 4 => 4
  | 22 => 24
  | 23 => 3
  | _ => 0
def dlRi : Go.Shelf.Ren := ⟨fun _ => 57, dlTi, fun x => x⟩
theorem dlLi : Go.Proofs.SlLaysN.n45 Try.prog dlRi where
  mixed := by kernel_rfl
  f45 := ⟨ "slices.Delete[[]int,int]", by decide, by kernel_rfl⟩
  t0 := by kernel_rfl
  a0 := fun w => by kernel_rfl
  z0 := fun w => by kernel_rfl
  v0 := fun w => by kernel_rfl
  t3 := by kernel_rfl
  a3 := fun w => by kernel_rfl
  z3 := fun w => by kernel_rfl
  v3 := fun w => by kernel_rfl
  t4 := by kernel_rfl
  a4 := fun w => by kernel_rfl
  z4 := fun w => by kernel_rfl
  v4 := fun w => by kernel_rfl
  t22 := by kernel_rfl
  a22 := fun w => by kernel_rfl
  z22 := fun w => by kernel_rfl
  v22 := fun w => by kernel_rfl
  t23 := by kernel_rfl
  a23 := fun w => by kernel_rfl
  z23 := fun w => by kernel_rfl
  v23 := fun w => by kernel_rfl
  i23 := by kernel_rfl
def dlTl : Nat → Nat
  | 0 => 0
  | 3 => 3
  | 4 => 4
  | 22 => 23
  | 23 => 2
  | _ => 0
def dlRl : Go.Shelf.Ren := ⟨fun _ => 81, dlTl, fun x => x⟩
theorem dlLl : Go.Proofs.SlLaysN.n45 Try.prog dlRl where
  mixed := by kernel_rfl
  f45 := ⟨ "slices.Delete[[]int64,int64]", by decide, by kernel_rfl⟩
  t0 := by kernel_rfl
  a0 := fun w => by kernel_rfl
  z0 := fun w => by kernel_rfl
  v0 := fun w => by kernel_rfl
  t3 := by kernel_rfl
  a3 := fun w => by kernel_rfl
  z3 := fun w => by kernel_rfl
  v3 := fun w => by kernel_rfl
  t4 := by kernel_rfl
  a4 := fun w => by kernel_rfl
  z4 := fun w => by kernel_rfl
  v4 := fun w => by kernel_rfl
  t22 := by kernel_rfl
  a22 := fun w => by kernel_rfl
  z22 := fun w => by kernel_rfl
  v22 := fun w => by kernel_rfl
  t23 := by kernel_rfl
  a23 := fun w => by kernel_rfl
  z23 := fun w => by kernel_rfl
  v23 := fun w => by kernel_rfl
  i23 := by kernel_rfl
end Go.Proofs
