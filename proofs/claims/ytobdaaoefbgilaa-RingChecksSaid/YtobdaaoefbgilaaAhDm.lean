/-
  Regions that draw, long ones: forerunners told by masks.
-/
import Derived.Test.YtobdaaoefbgilaaAhXw
set_option linter.unusedSimpArgs false
set_option linter.unusedVariables false
set_option linter.unusedSectionVars false
namespace Go.AH
open Go

def pairsN (P : Program) (ms : List Nat) (ops : Array Oper) (fl : List Nat) : List Nat → Bool
  | [] => true
  | i :: rest => rest.all (fun j => tb (ms.getD j 0) i || (match ops[i]?, ops[j]? with | some x, some y => swapOk P ops fl x y | _, _ => false)) && pairsN P ms ops fl rest
theorem pairsN_spec {P : Program} {ops : Array Oper} {ms fl : List Nat} (h : MasksOk ops ms) : ∀ l : List Nat, pairsN P ms ops fl l = true → pairsOk P ops fl l = true
  | [], _ => rfl
  | i :: l, e => by
    simp only [pairsN, Bool.and_eq_true] at e
    simp only [pairsOk, Bool.and_eq_true]
    refine ⟨List.all_eq_true.2 fun j hj => ?_, pairsN_spec h l e.2⟩
    have := List.all_eq_true.1 e.1 j hj
    simp only [Bool.or_eq_true] at this ⊢
    rcases this with q | q
    · exact .inl (h.anc q)
    · exact .inr q
def drawOkM (P : Program) (ops : Array Oper) (fl ord : List Nat) : Bool := ordOk ops [] ord && pairsN P (ancMs [] ops.toList) ops fl ord && (List.range ops.size).all ord.contains && decide (ord.length = ops.size)
theorem drawOkM_spec {P : Program} {ops : Array Oper} {fl ord : List Nat} (e : drawOkM P ops fl ord = true) : drawOk P ops fl ord = true := by
  simp only [drawOkM, Bool.and_eq_true] at e
  simp only [drawOk, Bool.and_eq_true]
  exact ⟨⟨⟨e.1.1.1, pairsN_spec (masks_ok ops) _ e.1.1.2⟩, e.1.2⟩, e.2⟩
/-- A long region that draws: the order of the text serves. -/
theorem awp_draw_long {P : Program} {t : AF} {h : AHeap} {N : Nat} {ro : Option Nat} {id : Nat} {Q : Exit → AF → AHeap → Prop} {l : List Oper} (hm : P.follows .mixedOrders = true) (fl : List Nat) (Γ : Gam) (hk : opsOk N l.toArray = true) (ho : drawOkM P l.toArray fl (List.range l.toArray.size) = true) (hΓ : Γ.ok P)
    (e : awpOpsG P Γ fl l.toArray (Q .normal) l t h) : AWP P ro N (.region id l.toArray true) Q t h := awp_draw_text hm fl Γ hk (drawOkM_spec ho) hΓ e
end Go.AH
