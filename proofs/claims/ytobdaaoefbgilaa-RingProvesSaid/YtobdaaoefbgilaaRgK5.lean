/-
  Ring: plain law: how many steps there can be at most until a configuration is good.
-/
import Derived.Test.YtobdaaoefbgilaaRgK4
set_option linter.unusedSimpArgs false
set_option linter.unusedVariables false
set_option linter.unusedSectionVars false
namespace Go.Proofs
open Go Go.AH
set_option maxRecDepth 10000
set_option maxHeartbeats 4000000

theorem nodup_ltN : ∀ (N : Nat) (l : List Nat), l.Nodup → (∀ x ∈ l, x < N) → l.length ≤ N
  | 0, l, _, h => by
    cases l with
    | nil => simp
    | cons x l => exact absurd (h x (by simp)) (by omega)
  | N + 1, l, hn, h => by
    have h1 := nodup_ltN N (l.erase N) (hn.erase N) fun x hx => by
      have h2 := h x (List.mem_of_mem_erase hx)
      have h3 : x ≠ N := fun e => by
        subst e
        exact (List.Nodup.not_mem_erase hn) hx
      omega
    have h4 : l.length ≤ (l.erase N).length + 1 := by
      by_cases hm : N ∈ l
      · rw [List.length_erase_of_mem hm]; omega
      · rw [List.erase_of_not_mem hm]; omega
    omega
theorem pigeonN (N : Nat) (f : Nat → Nat) (hf : ∀ i, i ≤ N → f i < N) : ∃ i j, i < j ∧ j ≤ N ∧ f i = f j := by
  refine Classical.byContradiction fun hno => ?_
  have hn : ((List.range (N + 1)).map f).Nodup := by
    rw [List.nodup_iff_pairwise_ne, List.pairwise_iff_getElem]
    intro i j hi hj hij e
    simp only [List.length_map, List.length_range] at hi hj
    simp only [List.getElem_map, List.getElem_range] at e
    exact hno ⟨i, j, hij, by omega, e⟩
  have := nodup_ltN N _ hn (by
    intro x hx
    obtain ⟨i, hi, rfl⟩ := List.mem_map.1 hx
    exact hf i (by have := List.mem_range.1 hi; omega))
  simp at this
  omega

def maxL (l : List Nat) : Nat := l.foldl max 0
theorem foldl_max : ∀ (l : List Nat) (a : Nat), l.foldl max a = max a (maxL l)
  | [], a => by simp [maxL]
  | x :: l, a => by
    have q1 := foldl_max l (max a x)
    have q2 := foldl_max l (max 0 x)
    show l.foldl max (max a x) = max a (l.foldl max (max 0 x))
    rw [q1, q2]; omega
theorem maxL_cons (x : Nat) (l : List Nat) : maxL (x :: l) = max x (maxL l) := by
  rw [maxL, List.foldl_cons, foldl_max]; omega
theorem maxL_append (l m : List Nat) : maxL (l ++ m) = max (maxL l) (maxL m) := by
  rw [maxL, List.foldl_append, foldl_max]; rfl
theorem maxL_ge {l : List Nat} {x : Nat} (h : x ∈ l) : x ≤ maxL l := by
  induction l with
  | nil => simp at h
  | cons y l ih =>
    rw [maxL_cons]
    rcases List.mem_cons.1 h with rfl | h
    · omega
    · have := ih h; omega
theorem maxL_mem {l : List Nat} (h : 0 < maxL l) : maxL l ∈ l := by
  induction l with
  | nil => simp [maxL] at h
  | cons y l ih =>
    rw [maxL_cons] at h ⊢
    by_cases q : maxL l ≤ y
    · rw [Nat.max_eq_left q]; simp
    · rw [Nat.max_eq_right (by omega)]
      exact List.mem_cons_of_mem _ (ih (by omega))

/-- The steps that there can be at most from n until a configuration is good. -/
inductive Rk (good : Nat → Bool) (nx : Nat → List Nat) : Nat → Nat → Prop
  | good {n : Nat} : good n = true → Rk good nx n 0
  | step {n v : Nat} (f : Nat → Nat) : good n = false → (∀ t ∈ nx n, Rk good nx t (f t)) → v = maxL ((nx n).map fun t => f t + 1) → Rk good nx n v

section
variable {good : Nat → Bool} {nx : Nat → List Nat}
theorem Rk.det {n v : Nat} (a : Rk good nx n v) : ∀ {w}, Rk good nx n w → v = w := by
  induction a with
  | good h =>
    intro w b
    cases b with
    | good _ => rfl
    | step f h2 _ _ => rw [h] at h2; cases h2
  | step f h hs hv ih =>
    intro w b
    cases b with
    | good h2 => rw [h] at h2; cases h2
    | step g _ hs2 hv2 =>
      rw [hv, hv2]
      congr 1
      exact List.map_congr_left fun t ht => by rw [ih t ht (hs2 t ht)]
theorem Rk.upTo {size : Nat} (hc : ∀ n, n < size → ∀ t ∈ nx n, t < size) {n v : Nat} (a : Rk good nx n v) : n < size → ∀ k, k ≤ v → ∃ m, m < size ∧ Rk good nx m k := by
  induction a with
  | @good n h =>
    intro hn k hk
    obtain rfl : k = 0 := by omega
    exact ⟨n, hn, .good h⟩
  | @step n v f h hs hv ih =>
    intro hn k hk
    by_cases e : k = v
    · subst e; exact ⟨n, hn, .step f h hs hv⟩
    · have hp : 0 < maxL ((nx n).map fun t => f t + 1) := by omega
      obtain ⟨t, ht, he⟩ := List.mem_map.1 (maxL_mem hp)
      exact ih t ht (hc n hn t ht) k (by omega)
theorem Rk.lt {size : Nat} (hc : ∀ n, n < size → ∀ t ∈ nx n, t < size) {n v : Nat} (a : Rk good nx n v) (hn : n < size) : v < size := by
  refine Nat.lt_of_not_le fun hv => ?_
  have hb := a.upTo hc hn
  obtain ⟨f, hf⟩ : ∃ f : Nat → Nat, ∀ k, k ≤ size → f k < size ∧ Rk good nx (f k) k := by
    refine ⟨fun k => if h : k ≤ size then Classical.choose (hb k (by omega)) else 0, fun k hk => ?_⟩
    simp only [dif_pos hk]
    exact Classical.choose_spec (hb k (by omega))
  obtain ⟨i, j, hij, hj, e⟩ := pigeonN size f fun i hi => (hf i hi).1
  have h1 := (hf i (by omega)).2
  have h2 := (hf j hj).2
  rw [e] at h1
  have := h1.det h2
  omega
/-- Where one may go on for ever there is no such number. -/
theorem Rk.not {S : Nat → Prop} (hS : ∀ n, S n → good n = false ∧ ∃ t ∈ nx n, S t) {n v : Nat} (a : Rk good nx n v) : ¬ S n := by
  induction a with
  | good h => intro q; have := (hS _ q).1; rw [h] at this; cases this
  | step f h hs hv ih =>
    intro q
    obtain ⟨t, ht, st⟩ := (hS _ q).2
    exact ih t ht st
/-- All have one. -/
def RkAll (good : Nat → Bool) (nx : Nat → List Nat) (size : Nat) (L : List Nat) : Prop := L.length = size ∧ ∀ n, n < size → Rk good nx n (L.getD n 0)
theorem RkAll.det {size : Nat} {L M : List Nat} (a : RkAll good nx size L) (b : RkAll good nx size M) : L = M := by
  refine List.ext_getElem (by rw [a.1, b.1]) fun i h1 h2 => ?_
  have x := (a.2 i (by rw [← a.1]; exact h1)).det (b.2 i (by rw [← a.1]; exact h1))
  simpa [h1, h2] using x
end
end Go.Proofs
