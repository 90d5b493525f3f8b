/-
  Ring: the arguments, read: pairs of numbers.
-/
import Derived.Test.YtobdaaoefbgilaaRgIn
set_option linter.unusedSimpArgs false
set_option linter.unusedVariables false
set_option linter.unusedSectionVars false
namespace Go.Proofs
open Go Go.AH Go.ChangeShapes Go.WideShapes Go.Deep Go.Joins Go.RowKit
set_option maxRecDepth 100000
section
variable {H : Type} {enc : TypeId × Value → H} {W : World} {base : Nat} {v : Value} {d : DataW H} {p : List MemPlace}
theorem rep_of_arg (hv : Value.okWide Try.prog W .any base 50 v) (h : DataW.Trod enc Try.prog W 0 (fun _ => true) true 50 v d p) : ∃ a b : Int, Rep W AHeap.empty v (.agg [.int .i64 a, .int .i64 b]) ∧ (Lit.int .i64 a).wf = true ∧ (Lit.int .i64 b).wf = true := by
  have hC : Try.prog.cellsOf 50 = 2 := by kernel_rfl
  have hc3 : Try.prog.cellsOf 3 = 1 := by kernel_rfl
  obtain ⟨cs, rfl, hsz⟩ : ∃ cs : Array Value, v = .agg cs ∧ cs.size = 2 := by
    simp only [Value.okWide, Try.underlying50] at hv
    obtain ⟨cs, h1, h2, _⟩ := hv
    exact ⟨cs, h1, h2.trans hC⟩
  obtain ⟨fuel, hf⟩ := h
  obtain ⟨xs, m, rfl, hx, _, hxl, hel⟩ := DataW.trod_array Try.underlying50 hf
  obtain ⟨c0, c1, hcs⟩ : ∃ c0 c1, cs.toList = [c0, c1] := by
    have : cs.toList.length = 2 := by simpa using hsz
    match cs.toList, this with
    | [a, b], _ => exact ⟨a, b, rfl⟩
  obtain ⟨y0, y1, rfl⟩ : ∃ y0 y1, xs = [y0, y1] := by
    match xs, hxl with
    | [a, b], _ => exact ⟨a, b, rfl⟩
  have hv2 : Value.cells (.agg cs) = cs := rfl
  have e0 := hel 0 (by omega)
  have e1 := hel 1 (by omega)
  rw [hc3, hv2, hcs] at e0 e1
  simp at e0 e1
  obtain ⟨a, ra, wa⟩ := rep_int Try.underlying3 e0
  obtain ⟨b, rb, wb⟩ := rep_int Try.underlying3 e1
  have r := Rep.agg (w := W) (h := AHeap.empty) (vs := [c0, c1]) (cells := [.int .i64 a, .int .i64 b]) rfl (by simp [AV.one]) (fun i hi hj => by
    match i, hi with
    | 0, _ => exact ra
    | 1, _ => exact rb)
  rw [← hcs] at r
  exact ⟨a, b, r, wa, wb⟩
end
end Go.Proofs
