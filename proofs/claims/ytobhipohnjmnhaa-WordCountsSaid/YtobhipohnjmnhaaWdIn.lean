/-
  An automaton as it comes in, read.
-/
import Derived.Test.YtobhipohnjmnhaaWdA
import Derived.Test.YtobhipohnjmnhaaAhEnd
import Derived.Lib.SmallJoins
set_option linter.unusedSimpArgs false
set_option linter.unusedVariables false
set_option linter.unusedSectionVars false
namespace Go.Proofs
open Go Go.AH Go.ChangeShapes Go.WideShapes Go.Deep Go.Joins
set_option maxRecDepth 100000

theorem try_laidOut : laidOutB Try.prog = true := by kernel_rfl
theorem rep_auto {H : Type} {enc : TypeId × Value → H} {W : World} {base : Nat} {v : Value} {d : DataW H} {p : List MemPlace} (hv : Value.okWide Try.prog W .any base 25 v)
    (h : DataW.Trod enc Try.prog W 0 (fun _ => true) true 25 v d p) (hs : Small Try.prog 25 d) : ∃ a : RAuto, a.sized ∧ Rep W AHeap.empty v a.av ∧ (Lit.int .i64 a.letters).wf = true := by
  obtain ⟨v0, v1, v2, y0, y1, y2, n, rfl, rfl, rfl, h0, h1, h2⟩ := open_agg3 Try.underlying25 (by kernel_rfl) (by kernel_rfl) hv h
  obtain ⟨z, r0, w0⟩ := rep_int Try.underlying3 h0
  obtain ⟨l, r1, l1, q1⟩ := rep_rows Try.underlying22 Try.underlying97 Try.underlying3 (by kernel_rfl) (by kernel_rfl) h1 (small_part Try.underlying25 hs (j := 1) rfl rfl)
  obtain ⟨g, r2, l2, _⟩ := rep_bools Try.underlying23 Try.underlying4 (by kernel_rfl) h2 (small_part Try.underlying25 hs (j := 2) rfl rfl)
  have b97 : Try.prog.bytesOf 97 = 24 := by kernel_rfl
  have b3 : Try.prog.bytesOf 3 = 8 := by kernel_rfl
  have b4 : Try.prog.bytesOf 4 = 1 := by kernel_rfl
  have hreach : reachBytes = 140737488351232 := rfl
  rw [b97] at l1
  rw [b4] at l2
  refine ⟨⟨z, l, g⟩, ⟨by simp only; omega, fun r hr => ?_, by simp only; omega⟩, ?_, w0⟩
  · have := (q1 r hr).1
    rw [b3] at this; omega
  · have r := Rep.agg (w := W) (h := AHeap.empty) (vs := [v0, v1, v2]) (cells := [.int .i64 z, rowsA l, boolsA g]) rfl (by simp [AV.one, rowsA, boolsA]) (fun i hi hj => by
      match i, hi with
      | 0, _ => exact r0
      | 1, _ => exact r1
      | 2, _ => exact r2)
    exact r
theorem wf_i64 {n : Int} (h : (Lit.int .i64 n).wf = true) : -9223372036854775808 ≤ n ∧ n ≤ 9223372036854775807 := by
  simpa [Lit.wf, IntKind.min, IntKind.max, IntKind.signed, IntKind.bits] using h
end Go.Proofs
