/-
  PROVED: PairPrices: whatever the arguments are, the law returns true, and the arguments read afterwards as they read before.
  CONDITIONS: those of the given row alone.
-/
import Derived.Test.YtkdhgablioljnaaRows
import Derived.Test.YtkdhgablioljnaaPbJ
import Derived.Test.YtkdhgablioljnaaP8
import Derived.SizedLaws
import Derived.JoinedOf
import Derived.JoinedAt
set_option linter.unusedSimpArgs false
set_option linter.unusedVariables false
set_option linter.unusedSectionVars false
namespace Go.Proofs.Ytkdhgablioljnaa.pairPrices
open Go Go.AH Go.ChangeShapes Go.WideShapes Go.ChangeAt Go.RowKit Go.Deep

theorem own : ownKnob Try.prog.godebug = none := by kernel_rfl
set_option maxRecDepth 100000 in
theorem lifted (os : Os) (started : os.Started) (H : Type) (enc : TypeId × Value → H) :
    ReturnsInHanded {} Try.checked os 4 .any (Rows.pairPricesSpec.pre6 enc Try.prog Try.f4 Rows.pairPricesRow.domain false) (Rows.pairPricesSpec.post enc Try.prog Try.f4 false true false false) := by
  refine returnsInHanded_of_change_sized (C := Try.checked) own started (by kernel_rfl) Try.func4
    (ChangeSpec.witness6 (enc := enc) (C := Try.checked) false ⟨#[], #[.slice none 0 0, .agg #[.slice none 0 0, .slice none 0 0], .int .i64 0], []⟩ 8 (by kernel_rfl) (by kernel_rfl) (by kernel_rfl) (by kernel_rfl)) ?_
  intro W base args ds gs before hval0 hW hcnd hz _
  have hval : ∀ (j : Nat) t v, Try.f4.params[j]? = some t → args[j]? = some v → Value.okWide Try.prog W .any base t v := hval0
  have hW' := hW
  obtain ⟨p, q, hA0, hV, rfl, hfz, hnd⟩ := hW
  obtain ⟨rfl, rfl⟩ := trodVars_none hV
  have hA : DataW.TrodAll enc Try.prog W 0 (fun _ => true) true Try.f4.params.toList args.toList ds p := hA0
  rw [List.append_nil] at hz
  have hend := fun (W' : World) => law_end (enc := enc) (W' := W') try_laidOut (f := Try.f4) (s := Rows.pairPricesSpec) (tb := 4) (by kernel_rfl) rfl (by kernel_rfl) Try.underlying4 hW'
  rw [Try.params4] at hA hval
  obtain ⟨v0, vs0, d0, ds0, p0, q0, hargs, rfl, rfl, h0, r0⟩ := trodAll_cons hA
  obtain ⟨v1, vs1, d1, ds1, p1, q1, rfl, rfl, rfl, h1, r1⟩ := trodAll_cons r0
  obtain ⟨v2, vs2, d2, ds2, p2, q2, rfl, rfl, rfl, h2, r2⟩ := trodAll_cons r1
  obtain ⟨rfl, rfl, rfl⟩ := trodAll_nil r2
  obtain rfl : args = #[v0, v1, v2] := by cases args; simp_all
  obtain ⟨l0, ra0, la0, lr0⟩ := rep_offer_arg (hval 0 22 v0 rfl rfl) h0 (small_arg (P := Try.prog) (t := 22) hz (j := 0) (by rw [Try.params4]; rfl) rfl)
  obtain ⟨m1, c1, ra1, lm1, lc1⟩ := rep_two_arg (hval 1 38 v1 rfl rfl) h1 (small_arg (P := Try.prog) (t := 38) hz (j := 1) (by rw [Try.params4]; rfl) rfl)
  obtain ⟨n2, ra2, wn2⟩ := rep_long_arg (hval 2 2 v2 rfl rfl) h2
  have hb2 := wf_i64 wn2
  refine (calls_of (w_PairPrices l0 la0 lr0 m1 c1 lm1 lc1 n2) W (RepL.cons ra0 (RepL.cons ra1 (RepL.cons ra2 RepL.nil)))).mono ?_
  rintro e W' ⟨v, rfl, rv, hs⟩
  obtain rfl := rv.inv_bool
  exact ⟨_, rfl, hend W' rfl hs⟩
theorem over : Rows.pairPricesRow.holds Try.pinned (OpenSpec.ofChange Rows.pairPricesSpec) :=
  OpenClaim.holds_of_wide 4 Try.f4 rfl rfl rfl rfl rfl rfl rfl ⟨rfl, rfl, rfl, rfl, rfl⟩ rfl rfl rfl rfl rfl (by kernel_rfl) Try.func4 (by kernel_rfl)
    (of_decide_eq_true (by kernel_rfl)) (by unfold Func.isWrapper; first | (rw [if_pos (by decide +kernel)]; kernel_rfl) | (rw [if_neg (by decide +kernel)]; exact ⟨rfl, rfl⟩))
    (fun os started H enc _ => lifted os started H enc)
theorem proved : Rows.PairPricesSaid := over
end Go.Proofs.Ytkdhgablioljnaa.pairPrices
