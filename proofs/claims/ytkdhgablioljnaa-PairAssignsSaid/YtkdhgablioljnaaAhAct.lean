/-
  A plan looks at its operation's operands alone; what is written is touched.
-/
import Derived.Test.YtkdhgablioljnaaAhAcc
import Derived.Test.YtkdhgablioljnaaA3
set_option linter.unusedSimpArgs false
set_option linter.unusedVariables false
set_option linter.unusedSectionVars false
namespace Go.AH
open Go

section
variable {P : Program} {t t' : AF} {h : AHeap}

theorem plan_congT {op : Op} (e : ∀ x ∈ op.operands, evalA t x = evalA t' x) : planA P t h op = planA P t' h op := by
  have hp := pureA_congr (P := P) (h := h) e
  cases op <;> first
    | (simp only [planA]; rw [hp]; done)
    | (simp [Op.operands] at e; simp [planA, planPut, e]; done)
    | skip
  all_goals simp only [Op.operands] at e
  · rename_i bt len parts
    simp only [planA]
    rw [show (parts.toList.map fun p => (p.1, evalA t p.2)) = parts.toList.map fun p => (p.1, evalA t' p.2) from List.map_congr_left fun p hp => by rw [e p.2 (by simp; exact ⟨p.1, by simpa using hp⟩)]]
  · rename_i mt r
    cases r with
    | none => rfl
    | some r => simp only [planA]; rw [hp]
  · rename_i it b
    have e1 := e it (by simp)
    cases b <;> simp only [planA, e1, pureA]
  · rename_i c
    obtain ⟨callee, args, ats⟩ := c
    cases callee with
    | value f => simp only [planA]; rw [hp]
    | invoke r m => simp only [planA]; rw [hp]
    | builtin b =>
      have ea2 : ∀ x ∈ args.toList, evalA t x = evalA t' x := fun x hx => e x (by simpa [Call.operands] using hx)
      have ea : args.toList.map (evalA t) = args.toList.map (evalA t') := map_evalA ea2
      cases b <;> first
        | (simp only [planA]; rw [hp]; done)
        | skip
      all_goals
        simp only [planA]
        generalize args.toList = l at ea ea2 ⊢
        generalize ats.toList = m
        first
          | (match l, m with
             | [], _ => rfl
             | [x], _ => rfl
             | [x, y], [] => rfl
             | [x, y], [_] => rfl
             | [x, y], [_, _] => simp only [ea2 x (by simp), ea2 y (by simp)]
             | [x, y], _ :: _ :: _ :: _ => rfl
             | _ :: _ :: _ :: _, _ => rfl)
          | (cases l with
             | nil => rfl
             | cons x xs => simp only [List.map_cons, List.cons.injEq] at ea; simp only [ea.1, ea.2])

theorem acc_congT {op : Op} (e : ∀ x ∈ op.operands, evalA t x = evalA t' x) : accA P t op = accA P t' op := by
  cases op <;> first
    | rfl
    | (simp [Op.operands] at e; simp [accA, e]; done)
    | skip
  all_goals simp only [Op.operands] at e
  · rename_i ty x lo hi mx
    have e1 := e x (by simp)
    cases mx with
    | none => simp only [accA, e1]
    | some m => rfl
  · rename_i it b
    have e1 := e it (by simp)
    cases b <;> simp only [accA, e1]
  · rename_i c
    obtain ⟨callee, args, ats⟩ := c
    cases callee with
    | value f => rfl
    | invoke r m => rfl
    | builtin b =>
      have ea2 : ∀ x ∈ args.toList, evalA t x = evalA t' x := fun x hx => e x (by simpa [Call.operands] using hx)
      have ef : args.toList.flatMap (fun x => blkS (evalA t x)) = args.toList.flatMap (fun x => blkS (evalA t' x)) := by
        rw [List.flatMap_def, List.flatMap_def, List.map_congr_left fun x hx => by rw [ea2 x hx]]
      cases b <;> first | rfl | exact ef | skip
      simp only [accA]
      generalize args.toList = l at ea2 ⊢
      match l, ats.toList with
      | [], _ => rfl
      | [x], [] => rfl
      | [x], [ty] => simp only [ea2 x (by simp)]
      | [x], _ :: _ :: _ => rfl
      | _ :: _ :: _, _ => rfl
end
end Go.AH
