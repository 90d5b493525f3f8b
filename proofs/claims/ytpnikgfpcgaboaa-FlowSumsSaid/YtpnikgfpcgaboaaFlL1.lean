/-
  Plain law: capacities of unions and intersections.
-/
import Derived.Test.YtpnikgfpcgaboaaFlH
set_option linter.unusedSimpArgs false
set_option linter.unusedVariables false
set_option linter.unusedSectionVars false
namespace Go.Proofs
open Go Go.AH
set_option maxRecDepth 10000
set_option maxHeartbeats 4000000

def capN (f : Int → Bool) (l : List RArc) : Int := (l.map fun x => if (f x.a && !f x.b) = true then x.c else 0).sum
theorem cap_eq (s : List Int) : ∀ (l : List RArc) (g : Int), (∀ x ∈ l, 0 ≤ x.c ∧ x.c ≤ 1000000000) → 0 ≤ g → g + l.length * 1000000000 ≤ 1000000000000000 → l.foldl (capStep s) g = g + capN s.contains l ∧ 0 ≤ capN s.contains l ∧ capN s.contains l ≤ l.length * 1000000000
  | [], g, _, _, _ => by simp [capN]
  | x :: l, g, hc, h0, hb => by
    obtain ⟨c1, c2⟩ := hc x (by simp)
    simp only [List.length_cons] at hb
    have hw : ∀ g' : Int, 0 ≤ g' → g' ≤ 1000000000000000 → IntKind.i64.wrap g' = g' := fun g' h1 h2 => wrap_i64 (by omega) (by omega)
    have hcn : capN s.contains (x :: l) = (if (s.contains x.a && !s.contains x.b) = true then x.c else 0) + capN s.contains l := by simp [capN]
    rw [List.foldl_cons, hcn]
    have hst : capStep s g x = g + (if (s.contains x.a && !s.contains x.b) = true then x.c else 0) := by
      unfold capStep
      split
      · exact hw _ (by omega) (by omega)
      · split
        · rw [hw _ h0 (by omega)]; omega
        · omega
    rw [hst]
    have hd : 0 ≤ (if (s.contains x.a && !s.contains x.b) = true then x.c else 0) ∧ (if (s.contains x.a && !s.contains x.b) = true then x.c else 0) ≤ 1000000000 := by split <;> omega
    generalize (if (s.contains x.a && !s.contains x.b) = true then x.c else 0) = d at hd ⊢
    obtain ⟨i1, i2, i3⟩ := cap_eq s l (g + d) (fun y hy => hc y (by simp [hy])) (by omega) (by omega)
    rw [i1]
    simp only [List.length_cons]
    omega
theorem cap_sub {f g u z : Int → Bool} : ∀ (l : List RArc), (∀ x ∈ l, 0 ≤ x.c) → (∀ x ∈ l, u x.a = (f x.a || g x.a) ∧ u x.b = (f x.b || g x.b) ∧ z x.a = (f x.a && g x.a) ∧ z x.b = (f x.b && g x.b)) → capN u l + capN z l ≤ capN f l + capN g l
  | [], _, _ => by simp [capN]
  | x :: l, hc, h => by
    have ih := cap_sub l (fun y hy => hc y (by simp [hy])) (fun y hy => h y (by simp [hy]))
    have c := hc x (by simp)
    obtain ⟨h1, h2, h3, h4⟩ := h x (by simp)
    have hcons : ∀ k : Int → Bool, capN k (x :: l) = (if (k x.a && !k x.b) = true then x.c else 0) + capN k l := fun k => by simp [capN]
    rw [hcons, hcons, hcons, hcons, h1, h2, h3, h4]
    generalize capN u l = cu at *
    generalize capN z l = cz at *
    generalize capN f l = cf at *
    generalize capN g l = cg at *
    cases f x.a <;> cases f x.b <;> cases g x.a <;> cases g x.b <;> simp <;> omega
theorem mem_contains (P s : Nat) (y : Int) : ((memL P s).map fun x : Nat => (x : Int)).contains y = (decide (0 ≤ y) && decide (y < P) && s.testBit y.toNat) := by
  rw [Bool.eq_iff_iff, List.contains_iff_mem]
  simp only [List.mem_map, memL, List.mem_filter, List.mem_range, Bool.and_eq_true, decide_eq_true_eq]
  constructor
  · rintro ⟨x, ⟨h1, h2⟩, rfl⟩
    exact ⟨⟨by omega, by omega⟩, by simpa using h2⟩
  · rintro ⟨⟨h1, h2⟩, h3⟩
    exact ⟨y.toNat, ⟨by omega, h3⟩, by omega⟩
end Go.Proofs
