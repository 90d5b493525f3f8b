/-
  Ring: Dijkstra's protocols are protocols, and steady where there are enough colours.
-/
import Derived.Test.YtobdaaoefbgilaaRgC1
import Derived.Test.YtobdaaoefbgilaaRgO3
set_option linter.unusedSimpArgs false
set_option linter.unusedVariables false
set_option linter.unusedSectionVars false
namespace Go.Proofs
open Go Go.AH
set_option maxRecDepth 10000
set_option maxHeartbeats 4000000

theorem dijT_bd {c i k : Nat} (hc : 2 ≤ c) (hk : k < c * c * c) : -1 ≤ dijT c i k ∧ dijT c i k < c ∧ dijT c i k ≠ ((k / c % c : Nat) : Int) := by
  have h1 : k / c / c < c := by rw [Nat.div_div_eq_div_mul]; exact Nat.div_lt_of_lt_mul (by rw [Nat.mul_comm (c * c) c, ← Nat.mul_assoc]; exact hk)
  have h2 : k / c % c < c := Nat.mod_lt _ (by omega)
  unfold dijT
  obtain ⟨l, hl⟩ : ∃ l, l = k / c / c := ⟨_, rfl⟩
  obtain ⟨o, ho⟩ : ∃ o, o = k / c % c := ⟨_, rfl⟩
  rw [← hl] at h1
  rw [← ho] at h2
  rw [← hl, ← ho]
  have h3 : (o + 1) % c < c := Nat.mod_lt _ (by omega)
  have h4 : (o + 1) % c ≠ o := by
    rcases Nat.lt_or_ge (o + 1) c with h | h
    · rw [Nat.mod_eq_of_lt h]; omega
    · have : o + 1 = c := by omega
      rw [this, Nat.mod_self]; omega
  obtain ⟨z, hz⟩ : ∃ z, z = (o + 1) % c := ⟨_, rfl⟩
  rw [← hz] at h3 h4 ⊢
  split
  · omega
  · split
    · next q => omega
    · omega
theorem dij_ok {m c : Nat} (h1 : 2 ≤ m) (h2 : m ≤ 6) (h3 : 2 ≤ c) (h4 : c ≤ 6) (h5 : pw c m ≤ 20000) : (dijR m c).ok := by
  have rws : ∀ row ∈ (dijR m c).next, ∃ i, row = (List.range (c * c * c)).map (dijT c i) := by
    intro row hr
    obtain ⟨i, _, rfl⟩ := List.mem_map.1 hr
    exact ⟨i, rfl⟩
  refine ⟨h1, h2, h3, h4, h5, by simp [dijR], fun row hr => ?_, fun row hr x hx => ?_, fun row hr x hx => ?_, fun i k => ?_⟩
  · obtain ⟨i, rfl⟩ := rws _ hr
    show _ = c * c * c
    simp
  · obtain ⟨i, rfl⟩ := rws _ hr
    obtain ⟨k, hk, rfl⟩ := List.mem_map.1 hx
    exact (dijT_bd h3 (List.mem_range.1 hk)).1
  · obtain ⟨i, rfl⟩ := rws _ hr
    obtain ⟨k, hk, rfl⟩ := List.mem_map.1 hx
    exact (dijT_bd h3 (List.mem_range.1 hk)).2.1
  · show ((dijR m c).next.getD i []).getD k (-1) ≠ ((k / c % c : Nat) : Int)
    have hneg : (-1 : Int) ≠ ((k / c % c : Nat) : Int) := by
      have := Int.natCast_nonneg (k / c % c)
      intro e; rw [← e] at this; cases this
    by_cases hi : i < m
    · have e : (dijR m c).next.getD i [] = (List.range (c * c * c)).map (dijT c i) := by simp [dijR, hi]
      rw [e]
      by_cases hk : k < c * c * c
      · rw [show ((List.range (c * c * c)).map (dijT c i)).getD k (-1) = dijT c i k from by simp [hk]]
        exact (dijT_bd h3 hk).2.2
      · rw [show ((List.range (c * c * c)).map (dijT c i)).getD k (-1) = -1 from by simp [show c * c * c ≤ k from by omega]]
        exact hneg
    · rw [show (dijR m c).next.getD i [] = [] from by simp [dijR, show m ≤ i from by omega]]
      exact hneg
theorem dij_cert {m c : Nat} (h1 : 2 ≤ m) (h2 : m ≤ 5) (h3 : 2 ≤ c) (h4 : c ≤ 5) (h5 : m - 1 ≤ c) : ∃ f, Cert (dijR m c) f := by
  have hm : m = 2 ∨ m = 3 ∨ m = 4 ∨ m = 5 := by omega
  have hc : c = 2 ∨ c = 3 ∨ c = 4 ∨ c = 5 := by omega
  rcases hm with rfl | rfl | rfl | rfl <;> rcases hc with rfl | rfl | rfl | rfl
  · exact ⟨_, steady_cert cd22⟩
  · exact ⟨_, steady_cert cd23⟩
  · exact ⟨_, steady_cert cd24⟩
  · exact ⟨_, steady_cert cd25⟩
  · exact ⟨_, steady_cert cd32⟩
  · exact ⟨_, steady_cert cd33⟩
  · exact ⟨_, steady_cert cd34⟩
  · exact ⟨_, steady_cert cd35⟩
  · omega
  · exact ⟨_, steady_cert cd43⟩
  · exact ⟨_, steady_cert cd44⟩
  · exact ⟨_, steady_cert cd45⟩
  · omega
  · omega
  · exact ⟨_, steady_cert cd54⟩
  · exact ⟨_, steady_cert cd55⟩
theorem four_cert {m : Nat} (h1 : 3 ≤ m) (h2 : m ≤ 4) : ∃ f, Cert (fourR m) f := by
  have hm : m = 3 ∨ m = 4 := by omega
  rcases hm with rfl | rfl
  · exact ⟨_, steady_cert cf3⟩
  · exact ⟨_, steady_cert cf4⟩
theorem pw_le5 {c m : Nat} (hc : c ≤ 5) (hm : m ≤ 5) : pw c m ≤ 20000 := by
  have h1 : c ^ m ≤ 5 ^ m := Nat.pow_le_pow_left hc m
  have h2 : 5 ^ m ≤ 5 ^ 5 := Nat.pow_le_pow_right (by omega) hm
  unfold pw
  omega
end Go.Proofs
