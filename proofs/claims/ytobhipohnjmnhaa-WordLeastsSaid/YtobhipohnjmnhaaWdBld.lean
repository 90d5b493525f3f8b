/-
  Calls told of the world, as calls of the layer: what was there stays.
-/
import Derived.Test.YtobhipohnjmnhaaA3
import Derived.Below
set_option linter.unusedSimpArgs false
set_option linter.unusedVariables false
set_option linter.unusedSectionVars false
namespace Go.Proofs
open Go Go.AH Go.RowKit
theorem ext_below {w w' : World} {g : AHeap} (x : Below w.heap.size w w') : Ext w g w' g :=
  ⟨x.size, fun b hb e => ⟨e, x.block b hb⟩, fun b cs e fr h => ⟨cs, fr, (x.block b (Array.getElem?_eq_some_iff.1 h).1).trans h, rfl⟩, x.os, x.tape, x.output⟩
theorem rel_below {w w' : World} {g : AHeap} (R : Rel w g) (x : Below w.heap.size w w') : Rel w' g :=
  R.step (ext_below x) fun i c e => .inl ⟨e, x.block i (R.lt e)⟩
theorem acalls_world {P : Program} {f : FuncId} {args : List AV} {h : AHeap} {r : AV} (he : ∀ (args : Array Value) (w : World), (callFunc f args).run P w = .ok (.enter f args) w)
    (hc : ∀ g w (vs : List Value), Rel w g → (∀ b c, h b = some c → g b = some c) → RepL w g vs args → Calls P f vs.toArray w fun e w' => ∃ v, e = .returned v ∧ Rep w' g v r ∧ Below w.heap.size w w') :
    ACalls P f args h fun r' h' => r' = r ∧ h' = h := by
  refine ⟨he, fun hf w vs D R A => ?_⟩
  have := hc (h.un hf) w vs R (fun b c e => by simp [AHeap.un, e]) A
  refine CallsIn.mono (callsIn_wide.2 this) ?_
  rintro e w' ⟨v, rfl, hr, hb⟩
  have hlt : ∀ b, hf b ≠ none → b < w.heap.size := fun b hb' => by
    cases e1 : (h.un hf) b with
    | some c => exact R.lt e1
    | none =>
      exfalso; apply hb'
      unfold AHeap.un at e1
      cases e2 : h b with
      | none => rw [e2] at e1; exact e1
      | some c => rw [e2] at e1; cases e1
  exact ⟨v, r, h, rfl, ⟨rfl, rfl⟩, D, rel_below R hb, hr, ext_below hb, fun b hb' => hb.block b (hlt b hb')⟩
end Go.Proofs
