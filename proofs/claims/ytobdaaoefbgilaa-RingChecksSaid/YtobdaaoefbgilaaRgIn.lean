/-
  Ring: the arguments, read.
-/
import Derived.Test.YtobdaaoefbgilaaG1
import Derived.Test.YtobdaaoefbgilaaAhEnd
import Derived.Lib.SmallJoins
set_option linter.unusedSimpArgs false
set_option linter.unusedVariables false
set_option linter.unusedSectionVars false
namespace Go.Proofs
open Go Go.AH Go.ChangeShapes Go.WideShapes Go.Deep Go.Joins Go.RowKit
set_option maxRecDepth 100000

theorem try_laidOut : laidOutB Try.prog = true := by kernel_rfl
theorem wf_i64 {n : Int} (h : (Lit.int .i64 n).wf = true) : -9223372036854775808 ≤ n ∧ n ≤ 9223372036854775807 := by
  simpa [Lit.wf, IntKind.min, IntKind.max, IntKind.signed, IntKind.bits] using h

section
variable {H : Type} {enc : TypeId × Value → H} {W : World} {base : Nat} {v : Value} {d : DataW H} {p : List MemPlace}
theorem rep_rules (hv : Value.okWide Try.prog W .any base 24 v)
    (h : DataW.Trod enc Try.prog W 0 (fun _ => true) true 24 v d p) (hs : Small Try.prog 24 d) : ∃ (m c : Int) (next : List (List Int)), Rep W AHeap.empty v (.agg [.int .i64 m, .int .i64 c, rowsA next]) ∧ next.length ≤ 6000000000000 ∧ ∀ row ∈ next, row.length ≤ 18000000000000 := by
  obtain ⟨v0, v1, v2, y0, y1, y2, n, rfl, rfl, rfl, h0, h1, h2⟩ := open_agg3 Try.underlying24 (by kernel_rfl) (by kernel_rfl) hv h
  obtain ⟨z, r0, w0⟩ := rep_int Try.underlying3 h0
  obtain ⟨c, r1, w1⟩ := rep_int Try.underlying3 h1
  obtain ⟨l, r2, l2, q2⟩ := rep_rows Try.underlying22 Try.underlying25 Try.underlying3 (by kernel_rfl) (by kernel_rfl) h2 (small_part Try.underlying24 hs (j := 2) rfl rfl)
  have b25 : Try.prog.bytesOf 25 = 24 := by kernel_rfl
  have b3 : Try.prog.bytesOf 3 = 8 := by kernel_rfl
  have hreach : reachBytes = 140737488351232 := rfl
  rw [b25] at l2
  refine ⟨z, c, l, ?_, by omega, fun r hr => ?_⟩
  · have r := Rep.agg (w := W) (h := AHeap.empty) (vs := [v0, v1, v2]) (cells := [.int .i64 z, .int .i64 c, rowsA l]) rfl (by simp [AV.one, rowsA]) (fun i hi hj => by
      match i, hi with
      | 0, _ => exact r0
      | 1, _ => exact r1
      | 2, _ => exact r2)
    exact r
  · have := (q2 r hr).1
    rw [b3] at this; omega
theorem rep_int_arg (hv : Value.okWide Try.prog W .any base 3 v) (h : DataW.Trod enc Try.prog W 0 (fun _ => true) true 3 v d p) : ∃ n : Int, Rep W AHeap.empty v (.int .i64 n) ∧ (Lit.int .i64 n).wf = true := by
  obtain ⟨n, rfl, rfl, rfl, wn⟩ := open_int Try.underlying3 hv h
  exact ⟨n, .int .i64 n, wn⟩
theorem rep_lists (hv : Value.okWide Try.prog W .any base 26 v) (h : DataW.Trod enc Try.prog W 0 (fun _ => true) true 26 v d p) (hs : Small Try.prog 26 d) : ∃ a b : List Int, Rep W AHeap.empty v (.agg [intsA a, intsA b]) ∧ a.length ≤ 18000000000000 ∧ b.length ≤ 18000000000000 := by
  have hC : Try.prog.cellsOf 26 = 2 := by kernel_rfl
  have hc25 : Try.prog.cellsOf 25 = 1 := by kernel_rfl
  have b3 : Try.prog.bytesOf 3 = 8 := by kernel_rfl
  have hreach : reachBytes = 140737488351232 := rfl
  obtain ⟨cs, rfl, hsz⟩ : ∃ cs : Array Value, v = .agg cs ∧ cs.size = 2 := by
    simp only [Value.okWide, Try.underlying26] at hv
    obtain ⟨cs, h1, h2, _⟩ := hv
    exact ⟨cs, h1, h2.trans hC⟩
  obtain ⟨fuel, hf⟩ := h
  obtain ⟨xs, m, rfl, hx, _, hxl, hel⟩ := DataW.trod_array Try.underlying26 hf
  obtain ⟨c0, c1, hcs⟩ : ∃ c0 c1, cs.toList = [c0, c1] := by
    have : cs.toList.length = 2 := by simpa using hsz
    match cs.toList, this with
    | [a, b], _ => exact ⟨a, b, rfl⟩
  obtain ⟨y0, y1, rfl⟩ : ∃ y0 y1, xs = [y0, y1] := by
    match xs, hxl with
    | [a, b], _ => exact ⟨a, b, rfl⟩
  have hv2 : Value.cells (.agg cs) = cs := rfl
  have e0 := hel 0 (by omega)
  have e1 := hel 1 (by omega)
  rw [hc25, hv2, hcs] at e0 e1
  simp at e0 e1 hx
  obtain ⟨rfl, _⟩ := hx
  have sm : ∀ y ∈ [y0.1, y1.1], Small Try.prog 25 y := fun y hy n hn => by
    refine hs n ?_
    simp only [DataW.weights, Try.underlying26]
    exact weights_all hy n hn
  obtain ⟨a, ra, la, _⟩ := rep_ints Try.underlying25 Try.underlying3 (by kernel_rfl) e0 (sm _ (by simp))
  obtain ⟨b, rb, lb, _⟩ := rep_ints Try.underlying25 Try.underlying3 (by kernel_rfl) e1 (sm _ (by simp))
  rw [b3] at la lb
  have r := Rep.agg (w := W) (h := AHeap.empty) (vs := [c0, c1]) (cells := [intsA a, intsA b]) rfl (by simp [AV.one, intsA]) (fun i hi hj => by
    match i, hi with
    | 0, _ => exact ra
    | 1, _ => exact rb)
  rw [← hcs] at r
  exact ⟨a, b, r, by omega, by omega⟩
theorem rep_list_arg (hv : Value.okWide Try.prog W .any base 25 v) (h : DataW.Trod enc Try.prog W 0 (fun _ => true) true 25 v d p) (hs : Small Try.prog 25 d) : ∃ a : List Int, Rep W AHeap.empty v (intsA a) ∧ a.length ≤ 18000000000000 := by
  have b3 : Try.prog.bytesOf 3 = 8 := by kernel_rfl
  have hreach : reachBytes = 140737488351232 := rfl
  obtain ⟨x, hx, hd⟩ : ∃ x : DataW H × List MemPlace, (∃ fuel, DataW.trod enc Try.prog W 0 (fun _ => true) true fuel 25 [v] = some x) ∧ x.1 = d := by
    obtain ⟨fuel, hf⟩ := h
    have hc : v.cells.toList = [v] := by
      cases v <;> first | rfl | (simp [Value.okWide, Cell.okWide, Cell.ok, Try.underlying25] at hv; done)
    rw [hc] at hf
    exact ⟨(d, p), ⟨fuel, hf⟩, rfl⟩
  obtain ⟨fuel, hf⟩ := hx
  obtain ⟨a, ra, la, _⟩ := rep_ints Try.underlying25 Try.underlying3 (by kernel_rfl) hf (by rw [hd]; exact hs)
  rw [b3] at la
  exact ⟨a, ra, by omega⟩
end
end Go.Proofs
