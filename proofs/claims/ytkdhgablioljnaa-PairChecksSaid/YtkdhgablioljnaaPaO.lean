/-
  Pair: barriers, by the program.
-/
import Derived.Test.YtkdhgablioljnaaPaN
set_option linter.unusedSimpArgs false
set_option linter.unusedVariables false
set_option linter.unusedSectionVars false
namespace Go.Proofs
open Go Go.AH
set_option maxRecDepth 10000
set_option maxHeartbeats 4000000

theorem oddOf_le {n : Nat} {es : List Ed} {s : List Int} : oddOf n es s ≤ n := by
  unfold oddOf
  exact Nat.le_trans oddsB_le (fallsB_len n)
theorem w_IsBarrier (n : Int) (es : List Ed) (he : es.length ≤ 1000000) (s : List Int) (hs : s.length ≤ 1000000) (k : Int) :
    Pure Try.prog 27 [gV n es, intL s, .int .i64 k] (.bool (barB n es s k)) := by
  refine pure_of (acalls_of Try.func27 rfl Try.call27 (by kernel_rfl) (by show _ ≤ (39 : Nat); simp) ?_)
  obtain ⟨r, hr⟩ : ∃ r, r = barB n es s k := ⟨_, rfl⟩
  rw [← hr]
  obtain ⟨V, hV⟩ : ∃ V, V = edL es := ⟨_, rfl⟩
  have hV1 : V.one = true := by rw [hV]; simp
  have hV2 : V.fit = true := by rw [hV]; simp
  have hV3 : V.cells = [V] := by rw [hV]; simp
  have hg : gV n es = .agg [.int .i64 n, V] := by rw [hV]; rfl
  have cc := w_Check n es he
  have cr := w_rising n s hs
  rw [hg] at cc ⊢
  simp [hV1, hV2, hV3]
  intro b3 hb3
  simp
  refine cc.use ?_
  have bad : barB n es s k = false → r = false := fun e => by rw [hr, e]
  rcases chk_cases n es with c0 | c0
  rotate_left
  · have := bad (by unfold barB; rw [c0]; rfl)
    simp [c0]
    exact finA_drop (by rw [this])
  simp [c0]
  refine cr.use ?_
  obtain ⟨Q, hQ⟩ : ∃ Q, okFrom n (-1) s = Q := ⟨_, rfl⟩
  rw [hQ]
  cases Q with
  | false =>
    have := bad (by unfold barB; rw [hQ]; simp)
    simp
    exact finA_drop (by rw [this])
  | true =>
    by_cases k1 : k < 0
    · have := bad (by unfold barB; simp; intro _ _ q; omega)
      simp [k1]
      exact finA_drop (by rw [this])
    by_cases k2 : n < k
    · have := bad (by unfold barB; simp; intro _ _ _ q; omega)
      simp [k1, k2]
      exact finA_drop (by rw [this])
    rw [barB_yes c0 hQ (by omega) (by omega)] at hr
    simp [k1, k2]
    obtain ⟨z1, z2, z3, z4⟩ := chk_zero c0
    obtain ⟨N, rfl⟩ : ∃ N : Nat, n = N := ⟨n.toNat, by omega⟩
    have co := w_odd N es c0 s hs hQ
    rw [hg] at co
    rw [Int.toNat_natCast] at hr
    have hol := oddOf_le (n := N) (es := es) (s := s)
    obtain ⟨o, ho⟩ : ∃ o, o = oddOf N es s := ⟨_, rfl⟩
    rw [← ho] at co hr hol
    have hsl : ∀ h : AHeap, lenA Try.prog h 24 (intL s) = some (.int .i64 (s.length : Int)) := fun h => lenA_intL s
    have hw1 : IntKind.i64.wrap (2 * k) = 2 * k := wrap_i64 (by omega) (by omega)
    have hw2 : IntKind.i64.wrap ((N : Int) + s.length) = (N : Int) + s.length := wrap_i64 (by omega) (by omega)
    have hw3 : IntKind.i64.wrap ((N : Int) + s.length - o) = (N : Int) + s.length - o := wrap_i64 (by omega) (by omega)
    refine awp_draw_text (by kernel_rfl) [36] [(.fn (.func 64) [] [], [.agg [.int .i64 N, V], intL s], .int .i64 o)] (by kernel_rfl) (by kernel_rfl) (by simp; exact PureV.of co) ?_
    simp [hsl, hw1, hw2, hw3, -lenA]
    exact finA_drop (by rw [hr])
end Go.Proofs
