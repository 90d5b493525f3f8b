/-
  Iterators that read a block of one's own.
-/
import Derived.Test.YtpnikgfpcgaboaaFlF
set_option linter.unusedSimpArgs false
set_option linter.unusedVariables false
set_option linter.unusedSectionVars false
namespace Go.AH
open Go
/-- As Iter, where the heap keeps to S throughout. -/
def IterH (P : Program) (S : AHeap → Prop) (fv : AV) {α : Type} (enc : α → List AV) (L : List α) (fin : Bool) : Prop :=
  ∀ (γ : Type) (I : γ → AHeap → Prop) (step : γ → α → γ) (go : γ → Bool) (y : AV) (g0 : γ) (h0 : AHeap), (∀ g h, I g h → S h) → go g0 = true → I g0 h0 → (fin = true ∨ go (runIt step go g0 L) = false) →
    (∀ i g a h, L[i]? = some a → g = (L.take i).foldl step g0 → go g = true → I g h → ACallV P y (enc a) h fun r h' => r = .bool (go (step g a)) ∧ I (step g a) h') →
    ACallV P fv [y] h0 fun _ h' => I (runIt step go g0 L) h'

section
variable {P : Program} {N : Nat} {t : AF} {h : AHeap}
theorem awp_iterH {S : AHeap → Prop} (hSu : ∀ h l c, S h → h l = none → S (h.upd l c)) {g : Operand} {ps : Array Tmp} {asg b : Code} {Q : Exit → AF → AHeap → Prop} {f : FuncId} {first caps : List AV} {α : Type} {enc : α → List AV} {L : List α} {fin : Bool}
    (hg : evalA t g = .fn (.func f) first caps) (it : IterH P S (.fn (.func f) first caps) enc L fin) {γ : Type} (J : γ → AHeap → Prop) (hJS : ∀ g h, J g h → S h) (step : γ → α → γ) (jump : γ → Option Exit) (g0 : γ) (hj0 : jump g0 = none) (h0 : J g0 h)
    (hk1 : codeOk N asg = true) (hk2 : codeOk N b = true) (hps : ∀ p ∈ ps.toList, p < N) (hlen : ∀ a ∈ L, ps.size = (enc a).length)
    (hfin : fin = true ∨ (jump (runIt step (fun g => (jump g).isNone) g0 L)).isNone = false)
    (body : ∀ l i g a h, L[i]? = some a → g = (L.take i).foldl step g0 → jump g = none → J g h → awp P (some l) N asg (thenA (awp P (some l) N b (fun e _ h2 => e = (jump (step g a)).getD .normal ∧ ∃ h3, Drop h2 h3 ∧ J (step g a) h3)) (fun _ _ _ => False)) (putsA t ps.toList (enc a)) h)
    (hjump : ∀ g e, jump g = some e → e = .ret ∨ ∃ id, e = .exit id)
    (after : ∀ h', J (runIt step (fun g => (jump g).isNone) g0 L) h' → Q ((jump (runIt step (fun g => (jump g).isNone) g0 L)).getD .normal) t h') : AWP P none N (.rangeFunc g ps asg b) Q t h := by
  have jc : ∀ g, ∃ j, jumpOf ((jump g).getD .normal) = some j ∧ j.isNone = (jump g).isNone ∧ ∀ Q h, Q ((jump g).getD .normal) t h → afterA Q t h j := by
    intro g
    cases hj : jump g with
    | none => exact ⟨none, rfl, rfl, fun Q h q => q⟩
    | some e =>
      rcases hjump g e hj with rfl | ⟨id, rfl⟩
      · exact ⟨some .ret, rfl, rfl, fun Q h q => q⟩
      · exact ⟨some (.exit id), rfl, rfl, fun Q h q => q⟩
  refine awp_rangeF hg fun l r hl hr hp hN e1 e2 e3 => ?_
  have hp' : recOf r none = r := by
    cases r; simp only at hr hp; subst hr; subst hp; rfl
  refine ACalls.mono (ACalls.funcs (it γ (fun g h' => ∃ h1 j, h' = h1.upd l (.loop (recOf r j) t) ∧ h1 l = none ∧ J g h1 ∧ jumpOf ((jump g).getD .normal) = some j) step (fun g => (jump g).isNone) (.fn (.yield l) [] []) g0 _ (fun g h' => ?_) (by simp [hj0]) ⟨h, none, by rw [hp'], hl, h0, by simp [hj0, jumpOf]⟩ hfin ?_)) ?_
  · rintro ⟨h1, j, rfl, h1l, hJ, _⟩
    exact hSu _ _ _ (hJS _ _ hJ) h1l
  · rintro i g a h' ha hgi hgo ⟨h1, j, rfl, h1l, hJ, hj⟩
    have hjn : jump g = none := by simpa using hgo
    rw [hjn] at hj
    simp only [Option.getD_none, jumpOf, Option.some.injEq] at hj
    subst hj
    rw [hp', ACallV_yield]
    refine ayield_of h1l hr hN (by rw [e1]; exact hps) (by rw [e1]; exact hlen a (List.mem_of_getElem? ha)) (by rw [e2]; exact hk1) (by rw [e3]; exact hk2) ?_
    rw [e1, e2, e3]
    refine awp_mono _ _ _ _ _ (fun e t' h' q => ?_) (body l i g a h1 ha hgi hjn hJ)
    cases e <;> first | exact q | skip
    simp only [thenA_normal] at q ⊢
    refine awp_mono _ _ _ _ _ (fun e t2 h2 q => ?_) q
    obtain ⟨rfl, h3, hd, q⟩ := q
    obtain ⟨j, j1, j2, j3⟩ := jc (step g a)
    rw [j1]
    exact ⟨h3, hd, fun h2l => ⟨by rw [j2], h3, j, rfl, h2l, q, rfl⟩⟩
  · rintro r' h' ⟨h1, j, rfl, h1l, hJ, hj⟩
    obtain ⟨j', j1, j2, j3⟩ := jc (runIt step (fun g => (jump g).isNone) g0 L)
    rw [hj] at j1; cases j1
    exact ⟨h1, j, rfl, h1l, j3 _ _ (after _ hJ)⟩
end
end Go.AH
