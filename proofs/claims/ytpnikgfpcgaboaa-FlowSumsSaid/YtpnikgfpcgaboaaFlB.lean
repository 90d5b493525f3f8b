/-
  Flow: a network handed on; the members of a set; whether numbers are a set.
-/
import Derived.Test.YtpnikgfpcgaboaaFlA
set_option linter.unusedSimpArgs false
set_option linter.unusedVariables false
set_option linter.unusedSectionVars false
namespace Go.Proofs
open Go Go.AH
set_option maxRecDepth 10000
set_option maxHeartbeats 4000000

theorem l_net (n : Int) (l : List RArc) (hl : l.length ≤ 1000) : Pure Try.prog 14 [netV n l] (netV n l) := by
  refine pure_of (acalls_of Try.func14 rfl Try.call14 (by kernel_rfl) (by show _ ≤ (28 : Nat); simp) ?_)
  obtain ⟨V, hV⟩ : ∃ V, V = arcsL l := ⟨_, rfl⟩
  have hV1 : V.one = true := by rw [hV]; simp
  have hV2 : V.fit = true := by rw [hV]; simp
  have hV3 : V.cells = [V] := by rw [hV]; simp
  obtain ⟨N, hN⟩ : ∃ N, N = l.length := ⟨_, rfl⟩
  have hlen : ∀ h : AHeap, lenA Try.prog h 22 V = some (.int .i64 (N : Int)) := by
    intro h
    rw [hV, hN]
    unfold arcsL
    split
    · next e => subst e; simp
    · simp [arcsA]
  rw [show netV n l = .agg [.int .i64 n, V] from by rw [hV]; rfl]
  simp
  intro b1 hb1
  simp [hV1, hV2, hV3]
  intro b2 hb2
  simp at hb2
  simp [hb2]
  intro b3 hb3
  simp at hb3
  simp [hb2, hb3, splice]
  refine awp_loop_g (γ := At) (fun q t h => (q.i ≤ N) ∧ ((q.o = none ↔ q.i = 0) ∧ ¬ q.o = some b1 ∧ ¬ q.o = some b2 ∧ ¬ q.o = some b3) ∧ t 1 = .ptr b1 0 ∧ t 2 = .ptr b2 0 ∧ t 3 = .ptr b3 0 ∧ t 4 = .int .i64 q.i ∧ h = (((AHeap.empty.upd b1 (.cells [.int .i64 n, V])).upd b2 (.cells [.int .i64 0, .nilsl])).upd b3 (.cells [.int .i64 n, ownV q.o q.i 3])).updO q.o (arcC (l.take q.i))) (fun q => N - q.i) (⟨0, none⟩) (turnA_self (by simp [hb2, hb3])) ?_
  rintro q t hx ⟨hi, ho, h1, h2, h3, h4, ex⟩
  rw [ex]
  clear ex
  obtain ⟨i, o⟩ := q
  simp only at h1 h2 h3 h4 hi ho
  obtain ⟨ho1, ho2, ho3, ho4⟩ := ho
  by_cases hlt : i < N
  · have hwi : IntKind.i64.wrap ((i : Int) + 1) = (i : Int) + 1 := wrap_i64 (by omega) (by omega)
    have hin : i < l.length := by omega
    have hne : ¬ l = [] := fun e => by rw [e] at hin; simp at hin
    have hVs : V = .sl l.length (arcC l) := by rw [hV]; unfold arcsL arcsA; rw [if_neg hne]
    have hat := arcC_at hin
    have hts : arcC (l.take (i + 1)) = arcC (l.take i) ++ [.int .i64 l[i].a, .int .i64 l[i].b, .int .i64 l[i].c] := by
      rw [List.take_succ_eq_append_getElem hin, arcC_append]; rfl
    obtain ⟨y, hy⟩ : ∃ y, y = l[i] := ⟨_, rfl⟩
    rw [← hy] at hat hts
    have hz : zcells [.int .i64 0, .int .i64 0, .int .i64 0] 1 = [.int .i64 0, .int .i64 0, .int .i64 0] := rfl
    have hi3 : 3 ≤ l.length * 3 - i * 3 := by omega
    have hi4 : min 3 (l.length * 3 - i * 3) = 3 := by omega
    rw [hVs] at hV1 hV2 hV3 hlen ⊢
    simp [h1, h2, h3, h4, hlen, hlt, hb2, hb3, ho2, ho3, ho4, -lenA, hin, hat, hz, splice, hi3, hi4]
    try simp [h1, h2, h3, h4, hin, hlt, hb2, hb3, ho2, ho3, ho4, hat, hz, splice, hi3, hi4]
    intro b6 hb6
    simp [ho2, ho3, ho4] at hb6
    simp [h1, h2, h3, h4, hb6, hb2, hb3, ho2, ho3, ho4]
    refine appendA_updO (by omega) (by omega) (fun e => by rw [ho1.1 e]; rfl) (by simp; omega) (by simp) (by cases o with | none => simp | some b => simp at hb6 ho2 ho3 ho4 ⊢; grind) fun b' hb' => ?_
    simp [hb6, hb2, hb3, ho2, ho3, ho4] at hb'
    simp [h1, h2, h3, h4, hb', hb6, hb2, hb3, ho2, ho3, ho4]
    rw [← hts]
    refine turnA_to ((((AHeap.empty.upd b1 (.cells [.int .i64 n, .sl l.length (arcC l)])).upd b2 (.cells [.int .i64 0, .nilsl])).upd b3 (.cells [.int .i64 n, .osl b' 0 (i + 1) 3])).updO (some b') (arcC (l.take (i + 1)))) ?_ ⟨⟨i + 1, some b'⟩, by simp only; omega, by simp only; omega, by simp [hb'], by simp [h1, h2, h3, h4, hwi]⟩
    simp
    exact Drop.both (Drop.new (Drop.refl _) (by simp [hb6]))
  · have hiN : i = N := by omega
    have hRt : l.take i = l := List.take_of_length_le (by omega)
    simp [h1, h2, h3, h4, hlen, hlt, hb2, hb3, ho2, ho3, ho4, -lenA]
    rw [hRt]
    cases o with
    | none =>
      have hi0 := ho1.1 rfl
      have hle : l = [] := List.eq_nil_of_length_eq_zero (by omega)
      refine finA_drop ?_
      rw [hV, hle]
      rfl
    | some b =>
      have hne : ¬ l = [] := fun e => by
        have := ho1.2
        rw [e] at hN
        simp at hN
        have := this (by omega)
        cases this
      refine finA_all 3 ?_
      rw [frz_agg]
      simp only [List.map_cons, List.map_nil, ownV_some, updO_some]
      rw [frz_osl (by simp)]
      simp [hV, arcsL, arcsA, hne, hiN, hN]
      rw [map_frozen arcC_frozen]
      exact List.take_of_length_le (by simp)
end Go.Proofs
