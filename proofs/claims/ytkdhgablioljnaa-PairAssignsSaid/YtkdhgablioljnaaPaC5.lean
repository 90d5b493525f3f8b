/-
  PROVED: PairAssigns: whatever the arguments are, the law returns true, and the arguments read afterwards as they read before.
  CONDITIONS: those of the given row alone.
-/
import Derived.Test.YtkdhgablioljnaaRows
import Derived.Test.YtkdhgablioljnaaPbX
import Derived.Test.YtkdhgablioljnaaP8
import Derived.SizedLaws
import Derived.JoinedOf
import Derived.JoinedAt
set_option linter.unusedSimpArgs false
set_option linter.unusedVariables false
set_option linter.unusedSectionVars false
namespace Go.Proofs.Ytkdhgablioljnaa.pairAssigns
open Go Go.AH Go.ChangeShapes Go.WideShapes Go.ChangeAt Go.RowKit Go.Deep

theorem own : ownKnob Try.prog.godebug = none := by kernel_rfl
set_option maxRecDepth 100000 in
theorem lifted (os : Os) (started : os.Started) (H : Type) (enc : TypeId × Value → H) :
    ReturnsInHanded {} Try.checked os 3 .any (Rows.pairAssignsSpec.pre6 enc Try.prog Try.f3 Rows.pairAssignsRow.domain false) (Rows.pairAssignsSpec.post enc Try.prog Try.f3 false true false false) := by
  refine returnsInHanded_of_change_sized (C := Try.checked) own started (by kernel_rfl) Try.func3
    (ChangeSpec.witness6 (enc := enc) (C := Try.checked) false ⟨#[], #[.slice none 0 0], []⟩ 8 (by kernel_rfl) (by kernel_rfl) (by kernel_rfl) (by kernel_rfl)) ?_
  intro W base args ds gs before hval0 hW hcnd hz _
  have hval : ∀ (j : Nat) t v, Try.f3.params[j]? = some t → args[j]? = some v → Value.okWide Try.prog W .any base t v := hval0
  have hW' := hW
  obtain ⟨p, q, hA0, hV, rfl, hfz, hnd⟩ := hW
  obtain ⟨rfl, rfl⟩ := trodVars_none hV
  have hA : DataW.TrodAll enc Try.prog W 0 (fun _ => true) true Try.f3.params.toList args.toList ds p := hA0
  rw [List.append_nil] at hz
  have hend := fun (W' : World) => law_end (enc := enc) (W' := W') try_laidOut (f := Try.f3) (s := Rows.pairAssignsSpec) (tb := 4) (by kernel_rfl) rfl (by kernel_rfl) Try.underlying4 hW'
  rw [Try.params3] at hA hval
  obtain ⟨v0, vs0, d0, ds0, p0, q0, hargs, rfl, rfl, h0, r0⟩ := trodAll_cons hA
  obtain ⟨rfl, rfl, rfl⟩ := trodAll_nil r0
  obtain rfl : args = #[v0] := by cases args; simp_all
  obtain ⟨l0, ra0, la0, lr0⟩ := rep_offer_arg (hval 0 22 v0 rfl rfl) h0 (small_arg (P := Try.prog) (t := 22) hz (j := 0) (by rw [Try.params3]; rfl) rfl)
  refine (calls_of (w_PairAssigns l0 la0 lr0) W (RepL.cons ra0 RepL.nil)).mono ?_
  rintro e W' ⟨v, rfl, rv, hs⟩
  obtain rfl := rv.inv_bool
  exact ⟨_, rfl, hend W' rfl hs⟩
theorem over : Rows.pairAssignsRow.holds Try.pinned (OpenSpec.ofChange Rows.pairAssignsSpec) :=
  OpenClaim.holds_of_wide 3 Try.f3 rfl rfl rfl rfl rfl rfl rfl ⟨rfl, rfl, rfl, rfl, rfl⟩ rfl rfl rfl rfl rfl (by kernel_rfl) Try.func3 (by kernel_rfl)
    (of_decide_eq_true (by kernel_rfl)) (by unfold Func.isWrapper; first | (rw [if_pos (by decide +kernel)]; kernel_rfl) | (rw [if_neg (by decide +kernel)]; exact ⟨rfl, rfl⟩))
    (fun os started H enc _ => lifted os started H enc)
theorem proved : Rows.PairAssignsSaid := over
end Go.Proofs.Ytkdhgablioljnaa.pairAssigns
