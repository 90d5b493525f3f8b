/-
  Flow, the reference: rising lists; capacities.
-/
import Derived.Test.YtpnikgfpcgaboaaFlR4
set_option linter.unusedSimpArgs false
set_option linter.unusedVariables false
set_option linter.unusedSectionVars false
namespace Go.Proofs
open Go Go.AH
set_option maxRecDepth 10000
set_option maxHeartbeats 4000000

structure RX where
  i : Nat
  last : Int
theorem l_Rising (P : Int) (l : List Int) (hl : l.length ≤ 1000000) : Pure Try.prog 24 [.int .i64 P, intL l] (.bool (okFrom P (-1) l)) := by
  refine pure_of (acalls_of Try.func24 rfl Try.call24 (by kernel_rfl) (by show _ ≤ (41 : Nat); simp) ?_)
  obtain ⟨r, hr⟩ : ∃ r, r = okFrom P (-1) l := ⟨_, rfl⟩
  rw [← hr]
  simp
  refine awp_loop_g (γ := RX) (fun q t h => (q.i ≤ l.length) ∧ (r = okFrom P q.last (l.drop q.i)) ∧ ((q.i = 0 ∧ q.last = -1) ∨ (0 < q.i ∧ l[q.i - 1]? = some q.last)) ∧ (-1 ≤ q.last) ∧ t 0 = .int .i64 P ∧ t 1 = intL l ∧ t 5 = .int .i64 q.i ∧ h = AHeap.empty) (fun q => l.length - q.i) (⟨0, -1⟩) (turnA_self (by simp [hr])) ?_
  rintro q t h ⟨hi, ho, hl2, hl3, h0, h1, h5, rfl⟩
  obtain ⟨i, last⟩ := q
  simp only at h0 h1 h5 hi ho hl2 hl3
  by_cases hlt : i < l.length
  · have hltI : (i : Int) < (l.length : Int) := by omega
    have hwi : IntKind.i64.wrap ((i : Int) + 1) = (i : Int) + 1 := wrap_i64 (by omega) (by omega)
    have hV : intL l = .sl l.length (intC l) := by unfold intL; rw [if_neg (fun e => by rw [e] at hlt; simp at hlt)]
    have hdr : l.drop i = l[i] :: l.drop (i + 1) := List.drop_eq_getElem_cons hlt
    obtain ⟨y, hy⟩ : ∃ y, y = l[i] := ⟨_, rfl⟩
    have hy' : l[i]? = some y := by rw [hy]; exact List.getElem?_eq_getElem hlt
    rw [hdr, ← hy] at ho
    simp only [okFrom] at ho
    simp [h0, h1, h5, hlt, hltI, -lenA, lenA_intL]
    refine awp_draw_text (by kernel_rfl) [] [] (by kernel_rfl) (by kernel_rfl) (by simp) ?_
    by_cases p1 : y < 0
    · simp [h0, h1, h5, hV, hlt, hltI, intC_at hy', p1]
      refine finA_drop ?_
      rw [ho, decide_eq_false (show ¬ last < y by omega)]; rfl
    · by_cases p2 : P ≤ y
      · simp [h0, h1, h5, hV, hlt, hltI, intC_at hy', p1, p2]
        refine finA_drop ?_
        rw [ho, decide_eq_false (show ¬ y < P by omega)]; simp
      · by_cases p3 : 0 < i
        · obtain ⟨q1, q2⟩ : 0 < i ∧ l[i - 1]? = some last := by
            rcases hl2 with h | h
            · omega
            · exact h
          obtain ⟨j, hj⟩ : ∃ j, j = i - 1 := ⟨_, rfl⟩
          rw [← hj] at q2
          have hwj : IntKind.i64.wrap ((i : Int) - 1) = (j : Int) := by rw [wrap_i64 (by omega) (by omega)]; omega
          have hjl : j < l.length := by omega
          have hjlI : (j : Int) < (l.length : Int) := by omega
          have p3I : (0 : Int) < (i : Int) := by omega
          by_cases p4 : y ≤ last
          · simp [h0, h1, h5, hV, hlt, hltI, intC_at hy', p1, p2, p3, p3I, hwj, hjl, hjlI, intC_at q2, p4]
            refine finA_drop ?_
            rw [ho, decide_eq_false (show ¬ last < y by omega)]; rfl
          · simp [h0, h1, h5, hV, hlt, hltI, intC_at hy', p1, p2, p3, p3I, hwj, hjl, hjlI, intC_at q2, p4]
            refine turnA_self ⟨⟨i + 1, y⟩, by simp only; omega, by simp only; omega, ?_, .inr ⟨by simp only; omega, by simpa using hy'⟩, by simp only; omega, by simp [h0, h1, h5, hwi, hV]⟩
            rw [ho, decide_eq_true (show last < y by omega), decide_eq_true (show y < P by omega)]; rfl
        · obtain rfl : i = 0 := by omega
          have hlast : last = -1 := by
            rcases hl2 with h | h
            · exact h.2
            · omega
          simp [h0, h1, h5, hV, hlt, hltI, intC_at hy', p1, p2]
          simp at hltI
          simp [hltI, h0, h1, h5]
          refine turnA_self ⟨⟨1, y⟩, by simp only; omega, by simp only; omega, ?_, .inr ⟨by simp only; omega, by simpa using hy'⟩, by simp only; omega, ?_⟩
          · rw [ho, decide_eq_true (show last < y by omega), decide_eq_true (show y < P by omega)]; rfl
          · simp at hwi
            simp [h0, h1, h5, hwi, hV]
  · obtain rfl : i = l.length := by omega
    rw [List.drop_length] at ho
    simp [h0, h1, h5, -lenA, lenA_intL]
    refine finA_drop ?_
    rw [ho]; rfl
theorem l_RCapacity (n : Int) (l : List RArc) (hl : l.length ≤ 200) (ha : ∀ x ∈ l, x.a ≠ x.b ∧ 0 ≤ x.c ∧ x.c ≤ 1000000000) {V : AV} (hV : ArcsV V l) (s : List Int) (hs : s.length ≤ 1000000) :
    Pure Try.prog 25 [.agg [.int .i64 n, V], intL s] (.int .i64 (capN s.contains l)) := by
  refine pure_of (acalls_of Try.func25 rfl Try.call25 (by kernel_rfl) (by show _ ≤ (42 : Nat); simp) ?_)
  obtain ⟨V1, V2, V3, V4, _, Vs⟩ := hV
  have ch := l_Has s hs
  obtain ⟨S, hS⟩ : ∃ S, S = intL s := ⟨_, rfl⟩
  rw [← hS] at ch ⊢
  obtain ⟨g, hg⟩ : ∃ g : Nat → Int, g = fun i => capN s.contains (l.take i) := ⟨_, rfl⟩
  have hgl : capN s.contains l = g l.length := by rw [hg]; simp
  have hb : ∀ i, i ≤ l.length → 0 ≤ g i ∧ g i ≤ i * 1000000000 := fun i hi => by
    have := cap_eq s (l.take i) 0 (fun x hx => (ha x (List.mem_of_mem_take hx)).2) (by omega) (by simp; omega)
    rw [hg]
    have h2 := this.2
    simp only [List.length_take, Nat.min_eq_left hi] at h2
    exact h2
  rw [hgl]
  simp [V1, V2, V3]
  intro b2 hb2
  simp [V1, V2, V3]
  refine awp_loop_g (γ := Nat) (fun i t h => (i ≤ l.length) ∧ t 1 = S ∧ t 2 = .ptr b2 0 ∧ t 5 = .int .i64 (g i) ∧ t 6 = .int .i64 i ∧ h = AHeap.empty.upd b2 (.cells [.int .i64 n, V])) (fun i => l.length - i) (0) (turnA_self (by simp [hg, capN])) ?_
  rintro i t h ⟨hi, h1, h2, h5, h6, rfl⟩
  by_cases hlt : i < l.length
  · have hltI : (i : Int) < (l.length : Int) := by omega
    have hwi : IntKind.i64.wrap ((i : Int) + 1) = (i : Int) + 1 := wrap_i64 (by omega) (by omega)
    have hVs := Vs (fun e => by rw [e] at hlt; simp at hlt)
    have hat := arcC_at hlt
    obtain ⟨x, hx⟩ : ∃ x, x = l[i] := ⟨_, rfl⟩
    rw [← hx] at hat
    have hxo := ha x (hx ▸ List.getElem_mem hlt)
    have hi3 : 3 ≤ l.length * 3 - i * 3 := by omega
    have hi4 : min 3 (l.length * 3 - i * 3) = 3 := by omega
    have hgs : g (i + 1) = g i + (if (s.contains x.a && !s.contains x.b) = true then x.c else 0) := by
      rw [hg]; simp only
      rw [List.take_succ_eq_append_getElem hlt, ← hx]
      simp [capN]
    have hgb := hb i (by omega)
    have w1 : IntKind.i64.wrap (g i + x.c) = g i + x.c := wrap_i64 (by omega) (by omega)
    have cA := ch x.a
    have cB := ch x.b
    generalize s.contains x.a = pa at hgs cA
    generalize s.contains x.b = pb at hgs cB
    simp [h1, h2, h5, h6, hlt, hltI, V4, -lenA]
    simp [h1, h2, h5, h6, hVs, hlt, hltI, hat, hi3, hi4]
    refine cA.use ?_
    cases pa with
    | false =>
      simp at hgs
      simp [h1, h2, h5, h6, hVs, hlt, hltI, hat, hi3, hi4]
      exact turnA_self ⟨i + 1, by omega, by omega, by simp [h1, h2, h5, h6, hwi, hVs, hgs]⟩
    | true =>
      simp [h1, h2, h5, h6, hVs, hlt, hltI, hat, hi3, hi4]
      refine cB.use ?_
      cases pb with
      | true =>
        simp at hgs
        simp [h1, h2, h5, h6, hVs, hlt, hltI, hat, hi3, hi4]
        exact turnA_self ⟨i + 1, by omega, by omega, by simp [h1, h2, h5, h6, hwi, hVs, hgs]⟩
      | false =>
        simp at hgs
        simp [h1, h2, h5, h6, hVs, hlt, hltI, hat, hi3, hi4, w1]
        exact turnA_self ⟨i + 1, by omega, by omega, by simp [h1, h2, h5, h6, hwi, hVs, hgs]⟩
  · obtain rfl : i = l.length := by omega
    simp [h1, h2, h5, h6, V4, -lenA]
    exact finA_drop rfl
end Go.Proofs
