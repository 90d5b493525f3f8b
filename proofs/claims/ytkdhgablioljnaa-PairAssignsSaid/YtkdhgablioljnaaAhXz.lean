/-
  A call without arguments, run by the evaluator: what it returns.
-/
import Derived.Test.YtkdhgablioljnaaAhXd
set_option linter.unusedSimpArgs false
set_option linter.unusedVariables false
set_option linter.unusedSectionVars false
namespace Go.AH
open Go

noncomputable def xtrueD (P : Program) (L : List Nat × List Nat) (n : Nat) (f : FuncId) : Bool := match xcall P L (xrun P L n) (.fn (.func f) [] []) [] xstart (fun r h => some (r, h)) with
  | some (.bool true, _) => true
  | _ => false

section
variable {P : Program}
theorem start_rep : HRep { b := fun i => i, p := fun _ => [], r := fun _ => (default, fun _ => .undef), lo := 0, g := fun _ => .gone } xstart AHeap.empty :=
  ⟨Tr.nil_wf 14, by decide, fun i => by rw [XH.get_eq, if_neg (by simp [xstart])]; trivial, fun i => by rw [XH.get_eq, if_neg (by simp [xstart])]; trivial,
    fun i j hi => by rw [XH.get_eq, if_neg (by simp [xstart])] at hi; exact absurd rfl hi, fun b hb => absurd rfl hb, fun _ _ _ => rfl, rfl, Nat.le_refl _, fun i hi => absurd hi (Nat.not_lt_zero i)⟩

theorem xtrueD_ok (hm : P.follows .mixedOrders = true) {L : List Nat × List Nat} (hDl : ∀ f ∈ L.2, DelC P f) (hL : ∀ f ∈ L.1, ∀ (args : Array Value) (w : World), (callFunc f args).run P w = .ok (.enter f args) w) {n : Nat} {f : FuncId} (e : xtrueD P L n f = true) : Pure P f [] (.bool true) := by
  unfold xtrueD at e
  split at e
  · next h hx =>
    have C := xcall_ok (xrun_ok (draw_ok hm) hDl hL n n (Nat.le_refl n)) hDl hL
    have c := C _ xstart AHeap.empty (.fn (.func f) [] []) [] _ _ hx start_rep
    refine pure_of (ACalls.mono (show ACalls P f [] AHeap.empty _ from c) ?_)
    rintro r H ⟨ρ', r', h', _, _, _, rfl, eK⟩
    cases eK
    simp [ren]
  · cases e
noncomputable def xtrue (P : Program) (L : List Nat) (n : Nat) (f : FuncId) : Bool := xtrueD P (L, []) n f
theorem xtrue_ok (hm : P.follows .mixedOrders = true) {L : List Nat} (hL : ∀ f ∈ L, ∀ (args : Array Value) (w : World), (callFunc f args).run P w = .ok (.enter f args) w) {n : Nat} {f : FuncId} (e : xtrue P L n f = true) : Pure P f [] (.bool true) :=
  xtrueD_ok hm (L := (L, [])) (fun _ h => nomatch h) hL e
end
end Go.AH
