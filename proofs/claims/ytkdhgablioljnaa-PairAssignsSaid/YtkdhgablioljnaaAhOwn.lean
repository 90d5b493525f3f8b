/-
  Lists that are grown by append: nil at first, then a row of one's own; told in one form.
-/
import Derived.Test.YtkdhgablioljnaaA3
set_option linter.unusedSimpArgs false
set_option linter.unusedVariables false
set_option linter.unusedSectionVars false
namespace Go.AH
open Go
section
variable {h h' : AHeap} {o o' : Option Nat} {cs cs' : List AV} {b b' off : Nat} {c : Chunk}
@[simp] theorem cellsAt_updO : cellsAt (h.updO o cs) b off = if o = some b then some (cs.drop off) else cellsAt h b off := by
  cases o with
  | none => simp
  | some x =>
    simp only [updO_some, cellsAt_upd]
    by_cases e : b = x
    · subst e; simp
    · have : ¬ x = b := fun q => e q.symm
      simp [e, this]
@[simp] theorem mapAt_updO : mapAt (h.updO o cs) (.map b) = if o = some b then none else mapAt h (.map b) := by
  cases o with
  | none => simp
  | some x =>
    by_cases e : b = x
    · subst e; simp [mapAt, AHeap.upd]
    · have : ¬ x = b := fun q => e q.symm
      simp [e, this, mapAt, AHeap.upd]
@[simp] theorem fresh_updO : Fresh (h.updO o cs) b = (¬ o = some b ∧ Fresh h b) := by
  cases o with
  | none => simp
  | some x =>
    unfold Fresh
    by_cases e : b = x
    · subst e; simp [AHeap.upd]
    · have : ¬ x = b := fun q => e q.symm
      simp [e, this, AHeap.upd]
@[simp] theorem updO_upd (hne : ¬ o = some b) : (h.updO o cs).upd b c = (h.upd b c).updO o cs := by
  cases o with
  | none => rfl
  | some x =>
    simp only [updO_some]
    exact AHeap.upd_comm (fun e => hne (by rw [e]))
theorem updO_comm (hne : ∀ b, o = some b → ¬ o' = some b) : (h.updO o cs).updO o' cs' = (h.updO o' cs').updO o cs := by
  cases o with
  | none => rfl
  | some x =>
    cases o' with
    | none => rfl
    | some y =>
      simp only [updO_some]
      exact AHeap.upd_comm (fun e => hne x rfl (by rw [e]))
theorem freshO_of (e : ∀ b, o = some b → Fresh h b) : FreshO h o := by cases o <;> simp_all
@[simp] theorem freshO_upd : FreshO (h.upd b c) o = (¬ o = some b ∧ FreshO h o) := by
  cases o with
  | none => simp
  | some x =>
    simp only [freshO_some, Fresh, AHeap.upd_get]
    by_cases e : x = b <;> simp [e]
@[simp] theorem freshO_empty : FreshO AHeap.empty o = True := by cases o <;> simp [Fresh]
@[simp] theorem freshO_updO : FreshO (h.updO o' cs) o = ((∀ b, o = some b → ¬ o' = some b) ∧ FreshO h o) := by
  cases o with
  | none => simp
  | some x => simp
/-- A place in a list and the list's block. -/
structure At where
  i : Nat
  o : Option Nat
theorem drop_updO {h0 : AHeap} (d : Drop h h0) (e : FreshO h0 o) : Drop (h.updO o cs) h0 := by
  cases o with
  | none => exact d
  | some x => exact d.new e
/-- An append to a list in either form. -/
theorem appendA_updO {n es k : Nat} {xs : List AV} {K : AV → AHeap → Prop} (hk : 0 < k) (hn : n + k < 1073741824) (he : o = none → cs = []) (hl : cs.length = n * es) (hes : 0 < es) (hf : FreshO h o)
    (q : ∀ b, Fresh h b → K (.osl b 0 (n + k) es) (h.upd b (.cells (cs ++ xs)))) : appendA (h.updO o cs) es (ownV o n es) k xs K := by
  cases o with
  | none =>
    obtain rfl := he rfl
    have hn0 : n = 0 := by
      rcases Nat.eq_zero_or_pos n with h | h
      · exact h
      · have := Nat.mul_pos h hes
        simp at hl; omega
    subst hn0
    rw [updO_none, ownV_none, appendA_nilsl]
    refine ⟨fun e => by omega, fun _ => ⟨by omega, fun b hb => ?_⟩⟩
    have := q b hb
    rw [Nat.zero_add] at this
    exact this
  | some x =>
    have hx : Fresh h x := hf
    rw [updO_some, ownV_some, appendA_osl, cellsAt_upd, if_pos rfl]
    refine ⟨rfl, by omega, ?_⟩
    rw [List.drop_zero, onSome_some]
    refine ⟨hl, ?_⟩
    rw [AHeap.del_upd hx]
    exact fun b hb => q b hb
end
end Go.AH
