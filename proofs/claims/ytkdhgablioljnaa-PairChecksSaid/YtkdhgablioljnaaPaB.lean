/-
  Pair: whether numbers rise; whether anything is a graph.
-/
import Derived.Test.YtkdhgablioljnaaPaA
set_option linter.unusedSimpArgs false
set_option linter.unusedVariables false
set_option linter.unusedSectionVars false
namespace Go.Proofs
open Go Go.AH
set_option maxRecDepth 10000
set_option maxHeartbeats 4000000

structure NI where
  i : Nat
  x : Int
/-- Numbers that rise, behind last, below P. -/
def okFrom (P : Int) : Int → List Int → Bool
  | _, [] => true
  | last, x :: r => decide (last < x) && decide (x < P) && okFrom P x r
theorem w_rising (P : Int) (l : List Int) (hl : l.length ≤ 1000000) : Pure Try.prog 63 [intL l, .int .i64 P] (.bool (okFrom P (-1) l)) := by
  refine pure_of (acalls_of Try.func63 rfl Try.call63 (by kernel_rfl) (by show _ ≤ (24 : Nat); simp) ?_)
  obtain ⟨cb, hcb⟩ : ∃ cb, cb = okFrom P (-1) l := ⟨_, rfl⟩
  rw [← hcb]
  simp [-lenA, lenA_intL]
  refine awp_loop_g (γ := NI) (fun q t h => (q.i ≤ l.length) ∧ (cb = okFrom P q.x (l.drop q.i)) ∧ t 1 = .int .i64 P ∧ t 5 = .int .i64 q.x ∧ t 8 = intL l ∧ t 9 = .int .i64 l.length ∧ t 10 = .int .i64 q.i ∧ h = AHeap.empty) (fun q => l.length - q.i) (⟨0, -1⟩) (turnA_self (by simp [hcb])) ?_
  rintro q t h ⟨hi, ho, h1, h5, h8, h9, h10, rfl⟩
  obtain ⟨i, last⟩ := q
  simp only at h1 h5 h8 h9 h10 hi ho
  by_cases hlt : i < l.length
  · have hwi : IntKind.i64.wrap ((i : Int) + 1) = (i : Int) + 1 := wrap_i64 (by omega) (by omega)
    have hV := intL_ne hlt
    obtain ⟨x, hx⟩ : ∃ x, l[i]? = some x := ⟨_, List.getElem?_eq_getElem hlt⟩
    have hat := intC_at hx
    have hdr : l.drop i = x :: l.drop (i + 1) := by
      rw [List.drop_eq_getElem_cons hlt]; congr 1
      have := List.getElem?_eq_getElem hlt; rw [hx] at this; exact (Option.some.inj this).symm
    rw [hdr, okFrom] at ho
    simp [h1, h5, h8, h9, h10, hlt, hV, hat]
    by_cases c1 : x ≤ last
    · have : cb = false := by rw [ho]; simp; intro h; omega
      simp [h1, h5, h8, h9, h10, c1]
      exact finA_drop (by rw [this])
    · by_cases c2 : P ≤ x
      · have : cb = false := by rw [ho]; simp; intro h h2; omega
        simp [h1, h5, h8, h9, h10, c1, c2]
        exact finA_drop (by rw [this])
      · simp [h1, h5, h8, h9, h10, c1, c2]
        have e1 : last < x := by omega
        have e2 : x < P := by omega
        exact turnA_self ⟨⟨i + 1, x⟩, by simp only; omega, by simp only; omega, by simp only; rw [ho]; simp [e1, e2], by simp [h1, h5, h8, h9, h10, hwi, hV]⟩
  · obtain rfl : i = l.length := by omega
    rw [List.drop_length] at ho
    simp [h1, h5, h8, h9, h10]
    exact finA_drop (by rw [ho]; rfl)
theorem w_Rising (n : Int) (es : List Ed) (l : List Int) (hl : l.length ≤ 1000000) : Pure Try.prog 65 [gV n es, intL l] (.bool (okFrom n (-1) l)) := by
  refine pure_of (acalls_of Try.func65 rfl Try.call65 (by kernel_rfl) (by show _ ≤ (42 : Nat); simp) ?_)
  obtain ⟨cb, hcb⟩ : ∃ cb, cb = okFrom n (-1) l := ⟨_, rfl⟩
  rw [← hcb]
  obtain ⟨V, hV⟩ : ∃ V, V = edL es := ⟨_, rfl⟩
  have hV1 : V.one = true := by rw [hV]; simp
  have hV2 : V.fit = true := by rw [hV]; simp
  have hV3 : V.cells = [V] := by rw [hV]; simp
  rw [show gV n es = .agg [.int .i64 n, V] from by rw [hV]; rfl]
  simp [hV1, hV2, hV3]
  intro b2 hb2
  simp
  refine awp_loop_g (γ := NI) (fun q t h => (q.i ≤ l.length) ∧ (cb = okFrom n q.x (l.drop q.i)) ∧ (-1 ≤ q.x ∧ (0 < q.i → l[q.i - 1]? = some q.x) ∧ (q.i = 0 → q.x = -1)) ∧ t 1 = intL l ∧ t 2 = .ptr b2 0 ∧ t 5 = .int .i64 q.i ∧ h = AHeap.empty.upd b2 (.cells [.int .i64 n, V])) (fun q => l.length - q.i) (⟨0, -1⟩) (turnA_self (by simp [hcb])) ?_
  rintro q t h ⟨hi, ho, hm, h1, h2, h5, rfl⟩
  obtain ⟨i, last⟩ := q
  simp only at h1 h2 h5 hi ho hm
  obtain ⟨m1, m2, m3⟩ := hm
  by_cases hlt : i < l.length
  · have hwi : IntKind.i64.wrap ((i : Int) + 1) = (i : Int) + 1 := wrap_i64 (by omega) (by omega)
    have hVi := intL_ne hlt
    obtain ⟨x, hx⟩ : ∃ x, l[i]? = some x := ⟨_, List.getElem?_eq_getElem hlt⟩
    have hat := intC_at hx
    have hdr : l.drop i = x :: l.drop (i + 1) := by
      rw [List.drop_eq_getElem_cons hlt]; congr 1
      have := List.getElem?_eq_getElem hlt; rw [hx] at this; exact (Option.some.inj this).symm
    rw [hdr, okFrom] at ho
    simp [h1, h2, h5, hlt, hVi]
    refine awp_draw_text (by kernel_rfl) [] [] (by kernel_rfl) (by kernel_rfl) (by simp) ?_
    by_cases c1 : x < 0
    · have : cb = false := by rw [ho]; simp; intro h; omega
      simp [h1, h2, h5, hlt, hVi, hat, c1]
      exact finA_drop (by rw [this])
    · by_cases c2 : n ≤ x
      · have : cb = false := by rw [ho]; simp; intro h h2; omega
        simp [h1, h2, h5, hlt, hVi, hat, c1, c2]
        exact finA_drop (by rw [this])
      · by_cases c3 : i = 0
        · have e1 : last < x := by have := m3 c3; omega
          have e2 : x < n := by omega
          have ci : ¬ 0 < (i : Int) := by omega
          have ci' : ¬ 0 < i := by omega
          simp [h1, h2, h5, hlt, hVi, hat, c1, c2, ci, ci']
          exact turnA_self ⟨⟨i + 1, x⟩, by simp only; omega, by simp only; omega, by simp only; rw [ho]; simp [e1, e2], ⟨by simp only; omega, by simp only [Nat.add_sub_cancel]; exact fun _ => hx, by simp only; omega⟩, by simp [h1, h2, h5, hwi, hVi]⟩
        · have ci : 0 < (i : Int) := by omega
          have ci' : 0 < i := by omega
          have hat2 := intC_at (m2 ci')
          have ws : IntKind.i64.wrap ((i : Int) - 1) = ((i - 1 : Nat) : Int) := by rw [wrap_i64 (by omega) (by omega)]; omega
          have hlt2 : i - 1 < l.length := by omega
          by_cases c4 : x ≤ last
          · have : cb = false := by rw [ho]; simp; intro h; omega
            simp [h1, h2, h5, hlt, hVi, hat, c1, c2, ci, ci', ws, hlt2, hat2, c4]
            exact finA_drop (by rw [this])
          · have e1 : last < x := by omega
            have e2 : x < n := by omega
            simp [h1, h2, h5, hlt, hVi, hat, c1, c2, ci, ci', ws, hlt2, hat2, c4]
            exact turnA_self ⟨⟨i + 1, x⟩, by simp only; omega, by simp only; omega, by simp only; rw [ho]; simp [e1, e2], ⟨by simp only; omega, by simp only [Nat.add_sub_cancel]; exact fun _ => hx, by simp only; omega⟩, by simp [h1, h2, h5, hwi, hVi]⟩
  · obtain rfl : i = l.length := by omega
    rw [List.drop_length] at ho
    simp [h1, h2, h5, -lenA, lenA_intL]
    exact finA_drop (by rw [ho]; rfl)
end Go.Proofs
