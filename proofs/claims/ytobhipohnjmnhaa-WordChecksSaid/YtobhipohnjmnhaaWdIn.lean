/-
  An automaton as it comes in, read.
-/
import Derived.Test.YtobhipohnjmnhaaV1
import Derived.Test.YtobhipohnjmnhaaAhEnd
import Derived.Lib.SmallJoins
set_option linter.unusedSimpArgs false
set_option linter.unusedVariables false
set_option linter.unusedSectionVars false
namespace Go.Proofs
open Go Go.AH Go.ChangeShapes Go.WideShapes Go.Deep Go.Joins Go.RowKit
set_option maxRecDepth 100000

theorem try_laidOut : laidOutB Try.prog = true := by kernel_rfl
theorem rep_auto {H : Type} {enc : TypeId × Value → H} {W : World} {base : Nat} {v : Value} {d : DataW H} {p : List MemPlace} (hv : Value.okWide Try.prog W .any base 25 v)
    (h : DataW.Trod enc Try.prog W 0 (fun _ => true) true 25 v d p) (hs : Small Try.prog 25 d) : ∃ a : RAuto, a.sized ∧ Rep W AHeap.empty v a.av ∧ (Lit.int .i64 a.letters).wf = true := by
  obtain ⟨v0, v1, v2, y0, y1, y2, n, rfl, rfl, rfl, h0, h1, h2⟩ := open_agg3 Try.underlying25 (by kernel_rfl) (by kernel_rfl) hv h
  obtain ⟨z, r0, w0⟩ := rep_int Try.underlying3 h0
  obtain ⟨l, r1, l1, q1⟩ := rep_rows Try.underlying22 Try.underlying97 Try.underlying3 (by kernel_rfl) (by kernel_rfl) h1 (small_part Try.underlying25 hs (j := 1) rfl rfl)
  obtain ⟨g, r2, l2, _⟩ := rep_bools Try.underlying23 Try.underlying4 (by kernel_rfl) h2 (small_part Try.underlying25 hs (j := 2) rfl rfl)
  have b97 : Try.prog.bytesOf 97 = 24 := by kernel_rfl
  have b3 : Try.prog.bytesOf 3 = 8 := by kernel_rfl
  have b4 : Try.prog.bytesOf 4 = 1 := by kernel_rfl
  have hreach : reachBytes = 140737488351232 := rfl
  rw [b97] at l1
  rw [b4] at l2
  refine ⟨⟨z, l, g⟩, ⟨by simp only; omega, fun r hr => ?_, by simp only; omega⟩, ?_, w0⟩
  · have := (q1 r hr).1
    rw [b3] at this; omega
  · have r := Rep.agg (w := W) (h := AHeap.empty) (vs := [v0, v1, v2]) (cells := [.int .i64 z, rowsA l, boolsA g]) rfl (by simp [AV.one, rowsA, boolsA]) (fun i hi hj => by
      match i, hi with
      | 0, _ => exact r0
      | 1, _ => exact r1
      | 2, _ => exact r2)
    exact r
theorem wf_i64 {n : Int} (h : (Lit.int .i64 n).wf = true) : -9223372036854775808 ≤ n ∧ n ≤ 9223372036854775807 := by
  simpa [Lit.wf, IntKind.min, IntKind.max, IntKind.signed, IntKind.bits] using h

section
variable {H : Type} {enc : TypeId × Value → H} {W : World} {base : Nat} {v : Value} {d : DataW H} {p : List MemPlace}
theorem rep_int_arg (hv : Value.okWide Try.prog W .any base 3 v) (h : DataW.Trod enc Try.prog W 0 (fun _ => true) true 3 v d p) : ∃ n : Int, Rep W AHeap.empty v (.int .i64 n) ∧ (Lit.int .i64 n).wf = true := by
  obtain ⟨n, rfl, rfl, rfl, wn⟩ := open_int Try.underlying3 hv h
  exact ⟨n, .int .i64 n, wn⟩
theorem rep_bool_arg (hv : Value.okWide Try.prog W .any base 4 v) (h : DataW.Trod enc Try.prog W 0 (fun _ => true) true 4 v d p) : ∃ b : Bool, Rep W AHeap.empty v (.bool b) := by
  obtain ⟨b, rfl, rfl, rfl⟩ := open_bool Try.underlying4 hv h
  exact ⟨b, .bool b⟩
theorem rep_str_cell {fuel : Nat} {u : Value} {y : DataW H × List MemPlace} (h : DataW.trod enc Try.prog W 0 (fun _ => true) true fuel 9 [u] = some y) (hs : Small Try.prog 9 y.1) : ∃ s : List UInt8, Rep W AHeap.empty u (.str s) ∧ s.length ≤ 4611686018427387904 := by
  obtain ⟨s, h1, h2, _⟩ := DataW.trod_string Try.underlying9 h
  simp only [List.cons.injEq, and_true] at h1
  subst h1 h2
  have := hs s.data.toList.length (by simp [DataW.weights])
  have hreach : reachBytes = 140737488351232 := rfl
  exact ⟨s.data.toList, .str s, by omega⟩
theorem rep_string_arg (hv : Value.okWide Try.prog W .any base 9 v) (h : DataW.Trod enc Try.prog W 0 (fun _ => true) true 9 v d p) (hs : Small Try.prog 9 d) : ∃ s : List UInt8, Rep W AHeap.empty v (.str s) ∧ s.length ≤ 4611686018427387904 := by
  obtain ⟨s, rfl⟩ := okWide_string Try.underlying9 hv
  obtain ⟨fuel, hf⟩ := h
  exact rep_str_cell (y := (d, p)) hf hs
theorem rep_two_arg (hv : Value.okWide Try.prog W .any base 57 v) (h : DataW.Trod enc Try.prog W 0 (fun _ => true) true 57 v d p) (hs : Small Try.prog 57 d) : ∃ u x : List UInt8, Rep W AHeap.empty v (.agg [.str u, .str x]) ∧ u.length ≤ 4611686018427387904 ∧ x.length ≤ 4611686018427387904 := by
  have hC : Try.prog.cellsOf 57 = 2 := by kernel_rfl
  have hc9 : Try.prog.cellsOf 9 = 1 := by kernel_rfl
  obtain ⟨cs, rfl, hsz⟩ : ∃ cs : Array Value, v = .agg cs ∧ cs.size = 2 := by
    simp only [Value.okWide, Try.underlying57] at hv
    obtain ⟨cs, h1, h2, _⟩ := hv
    exact ⟨cs, h1, h2.trans hC⟩
  obtain ⟨fuel, hf⟩ := h
  obtain ⟨xs, m, rfl, hx, _, hxl, hel⟩ := DataW.trod_array Try.underlying57 hf
  obtain ⟨c0, c1, hcs⟩ : ∃ c0 c1, cs.toList = [c0, c1] := by
    have : cs.toList.length = 2 := by simpa using hsz
    match cs.toList, this with
    | [a, b], _ => exact ⟨a, b, rfl⟩
  obtain ⟨y0, y1, rfl⟩ : ∃ y0 y1, xs = [y0, y1] := by
    match xs, hxl with
    | [a, b], _ => exact ⟨a, b, rfl⟩
  have hv2 : Value.cells (.agg cs) = cs := rfl
  have e0 := hel 0 (by omega)
  have e1 := hel 1 (by omega)
  rw [hc9, hv2, hcs] at e0 e1
  simp at e0 e1 hx
  obtain ⟨rfl, _⟩ := hx
  have sm : ∀ y ∈ [y0.1, y1.1], Small Try.prog 9 y := fun y hy n hn => by
    refine hs n ?_
    simp only [DataW.weights, Try.underlying57]
    exact weights_all hy n hn
  obtain ⟨u, ru, lu⟩ := rep_str_cell e0 (sm _ (by simp))
  obtain ⟨x, rx, lx⟩ := rep_str_cell e1 (sm _ (by simp))
  have r := Rep.agg (w := W) (h := AHeap.empty) (vs := [c0, c1]) (cells := [.str u, .str x]) rfl (by simp [AV.one]) (fun i hi hj => by
    match i, hi with
    | 0, _ => exact ru
    | 1, _ => exact rx)
  rw [← hcs] at r
  exact ⟨u, x, r, lu, lx⟩
end
end Go.Proofs
