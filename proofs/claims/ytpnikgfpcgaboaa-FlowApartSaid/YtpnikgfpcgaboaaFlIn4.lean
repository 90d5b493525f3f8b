/-
  Flow: lists of lists, as a caller hands them.
-/
import Derived.Test.YtpnikgfpcgaboaaF8
import Derived.Test.YtpnikgfpcgaboaaF11
set_option linter.unusedSimpArgs false
set_option linter.unusedVariables false
set_option linter.unusedSectionVars false
namespace Go.Proofs
open Go Go.AH Go.ChangeShapes Go.WideShapes Go.Deep Go.Joins Go.RowKit
set_option maxRecDepth 100000
theorem rep_rows_arg {H : Type} {enc : TypeId × Value → H} {W : World} {base : Nat} {v : Value} {d : DataW H} {p : List MemPlace} (hv : Value.okWide Try.prog W .any base 61 v) (h : DataW.Trod enc Try.prog W 0 (fun _ => true) true 61 v d p) (hs : Small Try.prog 61 d) :
    ∃ (V : AV) (rows : List AV) (ws : List (List Int)), Rep W AHeap.empty v V ∧ RowsIs V rows ws ∧ ws.length ≤ 18000000000000 ∧ ∀ w ∈ ws, w.length ≤ 18000000000000 := by
  have b3 : Try.prog.bytesOf 3 = 8 := by kernel_rfl
  have b34 : Try.prog.bytesOf 34 = 24 := by kernel_rfl
  have hreach : reachBytes = 140737488351232 := rfl
  obtain ⟨x, hx, hd⟩ : ∃ x : DataW H × List MemPlace, (∃ fuel, DataW.trod enc Try.prog W 0 (fun _ => true) true fuel 61 [v] = some x) ∧ x.1 = d := by
    obtain ⟨fuel, hf⟩ := h
    have hc : v.cells.toList = [v] := by
      cases v <;> first | rfl | (simp [Value.okWide, Cell.okWide, Cell.ok, Try.underlying61] at hv; done)
    rw [hc] at hf
    exact ⟨(d, p), ⟨fuel, hf⟩, rfl⟩
  obtain ⟨fuel, hf⟩ := hx
  obtain ⟨l, ra, la, lb⟩ := rep_rows Try.underlying61 Try.underlying34 Try.underlying3 (by kernel_rfl) (by kernel_rfl) hf (by rw [hd]; exact hs)
  rw [b34] at la
  refine ⟨_, l.map fun r => .sl r.length (r.map (.int .i64)), l, ra, ⟨rfl, rfl, rfl, fun g => by simp, fun _ _ => rfl, fun i hi => ⟨.sl l[i].length (intC l[i]), drop_of_get (by simp [hi, intC]), .inr rfl⟩⟩, by omega, fun w hw => ?_⟩
  have := (lb w hw).1
  rw [b3] at this
  omega
end Go.Proofs
