/-
  What is no automaton is refused by all.
-/
import Derived.Test.YtobhipohnjmnhaaWdCk1
import Derived.Test.YtobhipohnjmnhaaWdPrd
import Derived.Test.YtobhipohnjmnhaaV10
set_option linter.unusedSimpArgs false
set_option linter.unusedVariables false
set_option linter.unusedSectionVars false
namespace Go.Proofs
open Go Go.AH
set_option maxRecDepth 10000
set_option maxHeartbeats 4000000

section
variable {k e : Int} {V W : AV} (hV1 : V.one = true) (hV2 : V.fit = true) (hV3 : V.cells = [V]) (hW1 : W.one = true) (hW2 : W.fit = true) (hW3 : W.cells = [W]) (he : e ≠ 0) (cc : AH.Pure Try.prog 65 [.agg [.int .i64 k, V, W]] (.int .i64 e))
include hV1 hV2 hV3 hW1 hW2 hW3 he cc
theorem x_Accepts : Pure Try.prog 30 [.agg [.int .i64 k, V, W], .str []] (.tup [.bool false, .int .i64 e]) := by
  refine pure_of (acalls_of Try.func30 rfl Try.call30 (by kernel_rfl) (by show _ ≤ (28 : Nat); simp) ?_)
  simp
  intro b1 hb1
  simp [hV1, hV2, hV3, hW1, hW2, hW3]
  refine cc.use ?_
  simp [he]
  exact finA_drop rfl
theorem x_Least : Pure Try.prog 23 [.agg [.int .i64 k, V, W]] (.tup [noAuto, .int .i64 e]) := by
  refine pure_of (acalls_of Try.func23 rfl Try.call23 (by kernel_rfl) (by show _ ≤ (16 : Nat); simp) ?_)
  simp
  intro b1 hb1
  simp [hV1, hV2, hV3, hW1, hW2, hW3]
  intro b2 hb2
  simp at hb2
  simp [hb2, hV1, hV2, hV3, hW1, hW2, hW3]
  refine cc.use ?_
  simp [he, hb2]
  exact finA_drop rfl
theorem x_First : Pure Try.prog 25 [.agg [.int .i64 k, V, W]] (.tup [.str [], .int .i64 e]) := by
  refine pure_of (acalls_of Try.func25 rfl Try.call25 (by kernel_rfl) (by show _ ≤ (22 : Nat); simp) ?_)
  simp
  intro b1 hb1
  simp [hV1, hV2, hV3, hW1, hW2, hW3]
  refine cc.use ?_
  simp [he]
  exact finA_drop rfl
theorem x_Not : Pure Try.prog 41 [.agg [.int .i64 k, V, W]] (.tup [noAuto, .int .i64 e]) := by
  refine pure_of (acalls_of Try.func41 rfl Try.call41 (by kernel_rfl) (by show _ ≤ (17 : Nat); simp) ?_)
  simp
  intro b1 hb1
  simp [hV1, hV2, hV3, hW1, hW2, hW3]
  intro b2 hb2
  simp at hb2
  simp [hb2, hV1, hV2, hV3, hW1, hW2, hW3]
  refine cc.use ?_
  simp [he, hb2]
  exact finA_drop rfl
theorem x_Repeat : Pure Try.prog 50 [.agg [.int .i64 k, V, W]] (.tup [noAuto, .int .i64 e]) := by
  refine pure_of (acalls_of Try.func50 rfl Try.call50 (by kernel_rfl) (by show _ ≤ (59 : Nat); simp) ?_)
  simp
  intro b1 hb1
  simp [hV1, hV2, hV3, hW1, hW2, hW3]
  intro b2 hb2
  simp at hb2
  simp [hb2, hV1, hV2, hV3, hW1, hW2, hW3]
  refine cc.use ?_
  simp [he, hb2]
  exact finA_drop rfl
theorem x_Reverse : Pure Try.prog 49 [.agg [.int .i64 k, V, W]] (.tup [noAuto, .int .i64 e]) := by
  refine pure_of (acalls_of Try.func49 rfl Try.call49 (by kernel_rfl) (by show _ ≤ (56 : Nat); simp) ?_)
  simp
  intro b1 hb1
  simp [hV1, hV2, hV3, hW1, hW2, hW3]
  intro b2 hb2
  simp at hb2
  simp [hb2, hV1, hV2, hV3, hW1, hW2, hW3]
  refine cc.use ?_
  simp [he, hb2]
  exact finA_drop rfl
theorem x_Count : Pure Try.prog 18 [.agg [.int .i64 k, V, W], .int .i64 0] (.tup [.int .i64 0, .int .i64 e]) := by
  refine pure_of (acalls_of Try.func18 rfl Try.call18 (by kernel_rfl) (by show _ ≤ (80 : Nat); simp) ?_)
  simp
  intro b1 hb1
  simp [hV1, hV2, hV3, hW1, hW2, hW3]
  refine cc.use ?_
  simp [he]
  exact finA_drop rfl
theorem x_Words : Pure Try.prog 20 [.agg [.int .i64 k, V, W], .int .i64 1] (.tup [.nilsl, .int .i64 e]) := by
  refine pure_of (acalls_of Try.func20 rfl Try.call20 (by kernel_rfl) (by show _ ≤ (34 : Nat); simp) ?_)
  simp
  intro b1 hb1
  simp [hV1, hV2, hV3, hW1, hW2, hW3]
  intro b2 hb2
  simp at hb2
  simp [hb2, hV1, hV2, hV3, hW1, hW2, hW3]
  refine cc.use ?_
  simp [he, hb2]
  exact finA_drop rfl
theorem x_Classes : Pure Try.prog 24 [.agg [.int .i64 k, V, W]] (.tup [.nilsl, .int .i64 e]) := by
  refine pure_of (acalls_of Try.func24 rfl Try.call24 (by kernel_rfl) (by show _ ≤ (24 : Nat); simp) ?_)
  simp
  intro b1 hb1
  simp [hV1, hV2, hV3, hW1, hW2, hW3]
  refine cc.use ?_
  simp [he]
  exact finA_drop rfl
theorem x_Part : Pure Try.prog 36 [.agg [.int .i64 k, V, W], .str [], .str []] (.tup [.str [], .bool false, .int .i64 e]) := by
  refine pure_of (acalls_of Try.func36 rfl Try.call36 (by kernel_rfl) (by show _ ≤ (86 : Nat); simp) ?_)
  simp
  intro b1 hb1
  simp [hV1, hV2, hV3, hW1, hW2, hW3]
  refine cc.use ?_
  simp [he]
  exact finA_drop rfl
theorem x_Monoid : Pure Try.prog 43 [.agg [.int .i64 k, V, W]] (.tup [.int .i64 0, .int .i64 e]) := by
  refine pure_of (acalls_of Try.func43 rfl Try.call43 (by kernel_rfl) (by show _ ≤ (25 : Nat); simp) ?_)
  simp
  intro b1 hb1
  simp [hV1, hV2, hV3, hW1, hW2, hW3]
  refine cc.use ?_
  simp [he]
  exact finA_drop rfl
theorem x_Group : Pure Try.prog 44 [.agg [.int .i64 k, V, W]] (.tup [.str [], .int .i64 0, .bool false, .int .i64 e]) := by
  refine pure_of (acalls_of Try.func44 rfl Try.call44 (by kernel_rfl) (by show _ ≤ (53 : Nat); simp) ?_)
  simp
  intro b1 hb1
  simp [hV1, hV2, hV3, hW1, hW2, hW3]
  refine cc.use ?_
  simp [he]
  exact finA_drop rfl
end
section
variable {k k' ea eb : Int} {V W V' W' : AV} (hV1 : V.one = true) (hV2 : V.fit = true) (hV3 : V.cells = [V]) (hW1 : W.one = true) (hW2 : W.fit = true) (hW3 : W.cells = [W])
  (hV1' : V'.one = true) (hV2' : V'.fit = true) (hV3' : V'.cells = [V']) (hW1' : W'.one = true) (hW2' : W'.fit = true) (hW3' : W'.cells = [W'])
include hV1 hV2 hV3 hW1 hW2 hW3 hV1' hV2' hV3' hW1' hW2' hW3'
theorem x_checkTwo (ca : AH.Pure Try.prog 65 [.agg [.int .i64 k, V, W]] (.int .i64 ea)) (cb : AH.Pure Try.prog 65 [.agg [.int .i64 k', V', W']] (.int .i64 eb)) :
    Pure Try.prog 77 [.agg [.int .i64 k, V, W], .agg [.int .i64 k', V', W']] (.int .i64 (if ea ≠ 0 then ea else if eb ≠ 0 then eb else if k = k' then 0 else 1)) := by
  refine pure_of (acalls_of Try.func77 rfl Try.call77 (by kernel_rfl) (by show _ ≤ (27 : Nat); simp) ?_)
  simp
  intro b1 hb1
  simp
  intro b2 hb2
  simp at hb2
  simp [hb2]
  have hz : zcells [.int .i64 0, .nilsl, .nilsl] 2 = [.int .i64 0, .nilsl, .nilsl, .int .i64 0, .nilsl, .nilsl] := rfl
  have hs1 : ∀ a b c d e f g h i : AV, splice [a, b, c, d, e, f] 0 [g, h, i] = [g, h, i, d, e, f] := fun _ _ _ _ _ _ _ _ _ => rfl
  have hs2 : ∀ a b c d e f g h i : AV, splice [a, b, c, d, e, f] 3 [g, h, i] = [a, b, c, g, h, i] := fun _ _ _ _ _ _ _ _ _ => rfl
  have hs3 : ∀ a b c g h i : AV, splice [a, b, c] 0 [g, h, i] = [g, h, i] := fun _ _ _ _ _ _ => rfl
  simp [hz, hs1, hs2, hV1, hV2, hV3, hW1, hW2, hW3, hV1', hV2', hV3', hW1', hW2', hW3']
  intro b10 hb10
  simp at hb10
  simp [hb2, hb10]
  refine awp_loop_g (γ := Nat) (fun i t h => (i ≤ 2) ∧ ((1 ≤ i → ea = 0) ∧ (2 ≤ i → eb = 0)) ∧ t 2 = .ptr b1 0 ∧ t 3 = .ptr b2 0 ∧ t 10 = .osl b10 0 2 3 ∧ t 11 = .int .i64 2 ∧ t 12 = .int .i64 i ∧ h = ((AHeap.empty.upd b1 (.cells [.int .i64 k, V, W])).upd b2 (.cells [.int .i64 k', V', W'])).upd b10 (.cells [.int .i64 k, V, W, .int .i64 k', V', W'])) (fun i => 2 - i) (0) (turnA_self (by simp)) ?_
  rintro i t h ⟨hi, hg, h2, h3, h10, h11, h12, rfl⟩
  have hcs : i = 0 ∨ i = 1 ∨ i = 2 := by omega
  rcases hcs with rfl | rfl | rfl
  · simp [h2, h3, h10, h11, h12]
    intro b6 hb6
    simp at hb6
    simp [h2, h3, h10, h11, h12, hs3, hV1, hV2, hV3, hW1, hW2, hW3]
    refine ca.use ?_
    by_cases h0 : ea = 0
    · simp [h2, h3, h10, h11, h12, h0]
      exact turnA_drop b6 ⟨1, by omega, by omega, by omega, by simp [h2, h3, h10, h11, h12, hb6, IntKind.wrap, IntKind.bits, IntKind.signed]⟩
    · simp [h2, h3, h10, h11, h12, h0]
      exact finA_drop rfl
  · have h0 := hg.1 (Nat.le_refl _)
    simp [h2, h3, h10, h11, h12]
    intro b6 hb6
    simp at hb6
    simp [h2, h3, h10, h11, h12, hs3, hV1', hV2', hV3', hW1', hW2', hW3']
    refine cb.use ?_
    by_cases h1 : eb = 0
    · simp [h2, h3, h10, h11, h12, h1]
      exact turnA_drop b6 ⟨2, by omega, by omega, fun _ => h0, by simp [h2, h3, h10, h11, h12, hb6, IntKind.wrap, IntKind.bits, IntKind.signed]⟩
    · simp [h2, h3, h10, h11, h12, h1, h0]
      exact finA_drop rfl
  · have h0 := hg.1 (by omega)
    have h1 := hg.2 (Nat.le_refl _)
    by_cases he : k = k'
    · simp [h2, h3, h10, h11, h12, hb2, hb10, he, h0, h1]
      exact finA_drop rfl
    · simp [h2, h3, h10, h11, h12, hb2, hb10, he, h0, h1]
      exact finA_drop rfl
end
section
variable {k k' e : Int} {V W V' W' : AV} (hV1 : V.one = true) (hV2 : V.fit = true) (hV3 : V.cells = [V]) (hW1 : W.one = true) (hW2 : W.fit = true) (hW3 : W.cells = [W])
  (hV1' : V'.one = true) (hV2' : V'.fit = true) (hV3' : V'.cells = [V']) (hW1' : W'.one = true) (hW2' : W'.fit = true) (hW3' : W'.cells = [W']) (he : e ≠ 0)
  (cc : AH.Pure Try.prog 77 [.agg [.int .i64 k, V, W], .agg [.int .i64 k', V', W']] (.int .i64 e))
include hV1 hV2 hV3 hW1 hW2 hW3 hV1' hV2' hV3' hW1' hW2' hW3' he cc
theorem x_Differ : Pure Try.prog 34 [.agg [.int .i64 k, V, W], .agg [.int .i64 k', V', W']] (.tup [.str [], .bool false, .int .i64 e]) := by
  refine pure_of (acalls_of Try.func34 rfl Try.call34 (by kernel_rfl) (by show _ ≤ (23 : Nat); simp) ?_)
  simp
  intro b1 hb1
  simp
  intro b2 hb2
  simp at hb2
  simp [hb2, hV1, hV2, hV3, hW1, hW2, hW3, hV1', hV2', hV3', hW1', hW2', hW3']
  refine cc.use ?_
  simp [he]
  exact finA_drop rfl
theorem x_Both : Pure Try.prog 40 [.agg [.int .i64 k, V, W], .agg [.int .i64 k', V', W']] (.tup [noAuto, .int .i64 e]) := by
  refine pure_of (acalls_of Try.func40 rfl Try.call40 (by kernel_rfl) (by show _ ≤ (20 : Nat); simp) ?_)
  simp
  intro b1 hb1
  simp
  intro b2 hb2
  simp at hb2
  simp [hb2, hV1, hV2, hV3, hW1, hW2, hW3, hV1', hV2', hV3', hW1', hW2', hW3']
  intro b4 hb4
  simp at hb4
  simp [hb2, hb4, hV1, hV2, hV3, hW1, hW2, hW3, hV1', hV2', hV3', hW1', hW2', hW3']
  refine cc.use ?_
  simp [he, hb2, hb4]
  exact finA_drop rfl
theorem x_Follow : Pure Try.prog 51 [.agg [.int .i64 k, V, W], .agg [.int .i64 k', V', W']] (.tup [noAuto, .int .i64 e]) := by
  refine pure_of (acalls_of Try.func51 rfl Try.call51 (by kernel_rfl) (by show _ ≤ (60 : Nat); simp) ?_)
  simp
  intro b1 hb1
  simp
  intro b2 hb2
  simp at hb2
  simp [hb2, hV1, hV2, hV3, hW1, hW2, hW3, hV1', hV2', hV3', hW1', hW2', hW3']
  intro b4 hb4
  simp at hb4
  simp [hb2, hb4, hV1, hV2, hV3, hW1, hW2, hW3, hV1', hV2', hV3', hW1', hW2', hW3']
  refine cc.use ?_
  simp [he, hb2, hb4]
  exact finA_drop rfl
end
theorem x_IsGroup {k e : Int} {V W : AV} (hV1 : V.one = true) (hV2 : V.fit = true) (hV3 : V.cells = [V]) (hW1 : W.one = true) (hW2 : W.fit = true) (hW3 : W.cells = [W]) (he : e ≠ 0) (cc : AH.Pure Try.prog 65 [.agg [.int .i64 k, V, W]] (.int .i64 e)) :
    Pure Try.prog 48 [.agg [.int .i64 k, V, W], .str [97], .int .i64 2] (.bool false) := by
  refine pure_of (acalls_of Try.func48 rfl Try.call48 (by kernel_rfl) (by show _ ≤ (57 : Nat); simp) ?_)
  simp
  intro b1 hb1
  simp [hV1, hV2, hV3, hW1, hW2, hW3]
  refine cc.use ?_
  simp [he]
  exact finA_drop rfl
theorem l_none : Pure Try.prog 59 [noAuto] (.bool true) := by
  refine pure_of (acalls_of Try.func59 rfl Try.call59 (by kernel_rfl) (by show _ ≤ (18 : Nat); simp) ?_)
  simp [noAuto]
  intro b1 hb1
  simp
  exact finA_drop rfl
end Go.Proofs
