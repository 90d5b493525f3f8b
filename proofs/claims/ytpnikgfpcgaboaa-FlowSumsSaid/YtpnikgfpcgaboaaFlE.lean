/-
  Flow: searches; whether anything is a network.
-/
import Derived.Test.YtpnikgfpcgaboaaFlD
set_option linter.unusedSimpArgs false
set_option linter.unusedVariables false
set_option linter.unusedSectionVars false
namespace Go.Proofs
open Go Go.AH
set_option maxRecDepth 10000
set_option maxHeartbeats 4000000

theorem w_contains (l : List Int) (hl : l.length ≤ 1000000) (y : Int) : Pure Try.prog 60 [intL l, .int .i64 y] (.bool (l.contains y)) := by
  have key : Pure Try.prog 78 [intL l, .int .i64 y] (.int .i64 (if l.contains y then (l.findIdx (· == y) : Int) else -1)) := by
    obtain ⟨r, hr⟩ : ∃ r : Int, r = if l.contains y then (l.findIdx (· == y) : Int) else -1 := ⟨_, rfl⟩
    rw [← hr]
    refine pure_of (acalls_of Try.func78 rfl Try.call78 (by kernel_rfl) (by show _ ≤ (19 : Nat); simp) ?_)
    simp [-lenA, lenA_intL]
    refine awp_loop_g (γ := Nat) (fun k t h => (k ≤ l.length) ∧ (∀ i (hi : i < l.length), i < k → l[i] ≠ y) ∧ t 0 = intL l ∧ t 1 = .int .i64 y ∧ t 7 = .int .i64 l.length ∧ t 8 = .int .i64 k ∧ h = AHeap.empty) (fun k => l.length - k) (0) (turnA_self (by simp)) ?_
    rintro k t h ⟨hk, hno, h0, h1, h7, h8, rfl⟩
    by_cases hlt : k < l.length
    · have hw : IntKind.i64.wrap ((k : Int) + 1) = (k : Int) + 1 := wrap_i64 (by omega) (by omega)
      have hne : ¬ l = [] := fun e => by rw [e] at hlt; simp at hlt
      have hV : intL l = .sl l.length (intC l) := by unfold intL; rw [if_neg hne]
      obtain ⟨x, hx⟩ : ∃ x, x = l[k] := ⟨_, rfl⟩
      have hx' : l[k]'hlt = x := hx.symm
      by_cases c : y = x
      · have h1' : l.contains y = true := by
          rw [List.contains_iff_mem, c, hx]; exact List.getElem_mem hlt
        have h2 : l.findIdx (· == y) = k := by
          rw [List.findIdx_eq hlt]
          exact ⟨by simp [hx', c], fun i hi => by simpa using hno i (by omega) hi⟩
        simp [h0, h1, h7, h8, hlt, hV, intC, hx', c]
        refine finA_drop ?_
        rw [hr, if_pos h1', h2]
      · simp [h0, h1, h7, h8, hlt, hV, intC, hx', c]
        exact turnA_self ⟨k + 1, by omega, by omega, fun i hi hik => by
          by_cases e : i = k
          · subst e; rw [hx']; exact fun q => c q.symm
          · exact hno i hi (by omega), by simp [h0, h1, h7, h8, hw, hV, intC]⟩
    · obtain rfl : k = l.length := by omega
      have h1' : l.contains y = false := by
        cases h : l.contains y with
        | false => rfl
        | true =>
          rw [List.contains_iff_mem] at h
          obtain ⟨i, hi, e⟩ := List.mem_iff_getElem.1 h
          exact absurd e (hno i hi hi)
      simp [h0, h1, h7, h8]
      refine finA_drop ?_
      rw [hr, h1']; rfl
  obtain ⟨cb, hcb⟩ : ∃ cb, cb = l.contains y := ⟨_, rfl⟩
  rw [← hcb] at key ⊢
  refine pure_of (acalls_of Try.func60 rfl Try.call60 (by kernel_rfl) (by show _ ≤ (9 : Nat); simp) ?_)
  simp
  refine key.use ?_
  cases cb with
  | true =>
    simp
    exact finA_drop rfl
  | false =>
    simp
    exact finA_drop rfl

def arcV (x : RArc) : AV := .agg [.int .i64 x.a, .int .i64 x.b, .int .i64 x.c]
def arcOk (n : Int) (x : RArc) : Bool := decide (0 ≤ x.a) && decide (0 ≤ x.b) && decide (x.a < n) && decide (x.b < n) && decide (x.a ≠ x.b) && decide (0 ≤ x.c) && decide (x.c ≤ 1000000000)
theorem w_isArc (n : Int) (x : RArc) : Pure Try.prog 73 [.int .i64 n, arcV x] (.bool (arcOk n x)) := by
  refine pure_of (acalls_of Try.func73 rfl Try.call73 (by kernel_rfl) (by show _ ≤ (37 : Nat); simp) ?_)
  obtain ⟨a, b, c⟩ := x
  obtain ⟨r, hr⟩ : ∃ r, r = arcOk n ⟨a, b, c⟩ := ⟨_, rfl⟩
  rw [← hr]
  unfold arcV
  unfold arcOk at hr
  simp
  intro b3 hb3
  simp
  by_cases q1 : 0 ≤ if b < a then b else a
  · have p1 : 0 ≤ a ∧ 0 ≤ b := by split at q1 <;> omega
    by_cases q2 : (if a < b then b else a) < n
    · have p2 : a < n ∧ b < n := by split at q2 <;> omega
      by_cases q3 : a = b
      · subst q3
        have : r = false := by rw [hr]; simp
        simp [p1.1, p2.1]
        exact finA_drop (by rw [this])
      · by_cases q4 : 0 ≤ c
        · by_cases q5 : c ≤ 1000000000
          · have : r = true := by rw [hr]; simp [p1, p2, q3, q4, q5]
            simp [q1, q2, q3, q4, q5]
            exact finA_drop (by rw [this])
          · have : r = false := by rw [hr]; simp [q5]
            simp [q1, q2, q3, q4, q5]
            exact finA_drop (by rw [this])
        · have : r = false := by rw [hr]; simp [q4]
          simp [q1, q2, q3, q4]
          exact finA_drop (by rw [this])
    · have p2 : ¬ (a < n ∧ b < n) := by split at q2 <;> omega
      have : r = false := by rw [hr]; simp; omega
      simp [q1, q2]
      exact finA_drop (by rw [this])
  · have p1 : ¬ (0 ≤ a ∧ 0 ≤ b) := by split at q1 <;> omega
    have : r = false := by rw [hr]; simp; omega
    simp [q1]
    exact finA_drop (by rw [this])
end Go.Proofs
