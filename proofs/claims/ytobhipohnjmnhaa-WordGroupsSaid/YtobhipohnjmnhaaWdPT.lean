/-
  Plain laws: the word of a state is that of the first state that leads to it, and a letter; what is known halfway while all that can be reached is looked for.
-/
import Derived.Test.YtobhipohnjmnhaaWdWd
set_option linter.unusedSimpArgs false
set_option linter.unusedVariables false
set_option linter.unusedSectionVars false
namespace Go.Proofs
open Go Go.AH
set_option maxRecDepth 10000
set_option maxHeartbeats 4000000

/-- The first (state, letter) that leads to t. -/
structure Par (M : Dfa) (t p i : Nat) : Prop where
  lt : p < t
  li : i < M.k
  hnx : nx M p i = t
  bef : ∀ q j, j < M.k → (q < p ∨ q = p ∧ j < i) → nx M q j ≠ t
theorem wStep_other {row : List Nat} {s : Nat} {ws : List (List UInt8)} {j t : Nat} (h : row.getD j 0 ≠ t ∨ ws.getD t [] ≠ []) : (wStep row s ws j).getD t [] = ws.getD t [] := by
  unfold wStep
  split
  · next hc =>
    simp only [List.getD_eq_getElem?_getD, List.getElem?_set]
    by_cases e : row.getD j 0 = t
    · exfalso
      rcases h with h | h
      · exact h e
      · exact h (by rw [← e]; exact hc.2)
    · simp only [List.getD_eq_getElem?_getD] at e
      rw [if_neg e]
  · rfl
theorem wRow_other {row : List Nat} {s : Nat} {ws : List (List UInt8)} {t : Nat} : ∀ j, (∀ i, i < j → row.getD i 0 ≠ t) ∨ ws.getD t [] ≠ [] → (wRow row s ws j).getD t [] = ws.getD t []
  | 0, _ => by simp [wRow]
  | j + 1, h => by
    have ih := wRow_other (row := row) (s := s) (ws := ws) (t := t) j (h.imp (fun h i hi => h i (by omega)) id)
    rw [wRow_succ, wStep_other, ih]
    rcases h with h | h
    · exact .inl (h j (by omega))
    · exact .inr (by rw [ih]; exact h)
theorem wRow_app (row : List Nat) (s : Nat) (ws : List (List UInt8)) (j : Nat) : ∀ d, (∀ t, (wRow row s ws j).getD t [] ≠ [] → (wRow row s ws (j + d)).getD t [] = (wRow row s ws j).getD t [])
  | 0 => fun t _ => rfl
  | d + 1 => fun t h => by
    have ih := wRow_app row s ws j d t h
    rw [show j + (d + 1) = (j + d) + 1 from by omega, wRow_succ, wStep_other (.inr (by rw [ih]; exact h)), ih]
theorem wIter_keep (M : Dfa) (t s : Nat) (h : (wIter M s).getD t [] ≠ []) : ∀ d, (wIter M (s + d)).getD t [] = (wIter M s).getD t []
  | 0 => rfl
  | d + 1 => by
    have ih := wIter_keep M t s h d
    rw [show s + (d + 1) = (s + d) + 1 from by omega, wIter_succ, wRow_other _ (.inr (by rw [ih]; exact h)), ih]
theorem wIter_unhit (M : Dfa) (t : Nat) : ∀ s, (∀ q j, j < M.k → q < s → nx M q j ≠ t) → (wIter M s).getD t [] = []
  | 0, _ => by
    simp only [wIter, List.range_zero, List.foldl_nil, List.getD_eq_getElem?_getD]
    by_cases h : t < M.next.length
    · rw [List.getElem?_replicate, if_pos h]; rfl
    · rw [List.getElem?_eq_none (by simpa using Nat.le_of_not_lt h)]; rfl
  | s + 1, h => by
    have ih := wIter_unhit M t s fun q j hj hq => h q j hj (by omega)
    rw [wIter_succ, wRow_other _ (.inl fun i hi => h s i hi (by omega)), ih]

theorem wd_par {M : Dfa} (hM : M.wf) (b : Bf M) {t p i : Nat} (ht : t < M.next.length) (h : Par M t p i) : wd M t = wd M p ++ [ltr i] := by
  have hp : p < M.next.length := by have := h.lt; omega
  have h1 : (wIter M p).getD t [] = [] := wIter_unhit M t p fun q j hj hq => h.bef q j hj (.inl hq)
  -- the row of p, up to the letter
  have h2 : (wRow (M.next.getD p []) p (wIter M p) i).getD t [] = [] := by
    rw [wRow_other i (.inl fun j hj => h.bef p j (by have := h.li; omega) (.inr ⟨rfl, hj⟩)), h1]
  have h3 : (wRow (M.next.getD p []) p (wIter M p) i).getD p [] = wd M p := by
    by_cases h0 : wd M p = []
    · have hp0 : p = 0 ∨ 0 < p := by omega
      rcases hp0 with rfl | hp0
      · -- state 0 is never written
        have hz : ∀ j, j ≤ M.k → (wRow (M.next.getD 0 []) 0 (wIter M 0) j).getD 0 [] = [] := fun j hj => by
          have v := (wIter_inv hM b 0 (by omega)).row hM b (by omega) j hj
          by_cases e : (wRow (M.next.getD 0 []) 0 (wIter M 0) j).getD 0 [] = []
          · exact e
          · exact absurd (v.full 0 hp e).1 (by omega)
        rw [hz i (by have := h.li; omega), h0]
      · exfalso
        have := (wIter_inv hM b p (by omega)).empty p hp h0
        obtain ⟨q, j, hq, hj, e, _⟩ := b p hp0 hp
        rcases this with h4 | h4
        · omega
        · exact h4 q j hj (.inl hq) e
    · exact wRow_other i (.inr h0)
  have hrow : (M.next.getD p []).getD i 0 = t := h.hnx
  have h4 : (wRow (M.next.getD p []) p (wIter M p) (i + 1)).getD t [] = wd M p ++ [ltr i] := by
    rw [wRow_succ, wStep, if_pos ⟨by rw [hrow]; have := h.lt; omega, by rw [hrow]; exact h2⟩, hrow, h3]
    simp only [List.getD_eq_getElem?_getD, List.getElem?_set, wRow_len, wIter_len, ht, if_true, Option.getD_some]
  have hne : (wRow (M.next.getD p []) p (wIter M p) (i + 1)).getD t [] ≠ [] := by rw [h4]; simp
  have h5 : (wIter M (p + 1)).getD t [] = wd M p ++ [ltr i] := by
    rw [wIter_succ]
    have := wRow_app (M.next.getD p []) p (wIter M p) (i + 1) (M.k - (i + 1)) t hne
    rw [show i + 1 + (M.k - (i + 1)) = M.k from by have := h.li; omega] at this
    rw [this, h4]
  have h6 := wIter_keep M t (p + 1) (by rw [h5]; simp) (t - (p + 1))
  rw [show p + 1 + (t - (p + 1)) = t from by have := h.lt; omega] at h6
  show (wIter M t).getD t [] = _
  rw [h6, h5]

/-! ### Halfway -/
section
variable {α : Type} [DecidableEq α]
/-- What is known when the first i letters of the key a have been gone over: the first L keys. -/
structure Half (ν : α → Nat → α) (k : Nat) (keys : List α) (M : Dfa) (a i L : Nat) : Prop where
  aL : a < L
  le : L ≤ keys.length
  ent : ∀ q j, j < k → (q < a ∨ q = a ∧ j < i) → nx M q j < L
theorem Half.zero {ν : α → Nat → α} {k : Nat} {keys : List α} {M : Dfa} (h : 1 ≤ keys.length) : Half ν k keys M 0 0 1 := ⟨by omega, h, fun q j _ h => by omega⟩
theorem Half.next {ν : α → Nat → α} {k : Nat} {keys : List α} {M : Dfa} {a L : Nat} (h : Half ν k keys M a k L) (ha : a + 1 < L) : Half ν k keys M (a + 1) 0 L :=
  ⟨ha, h.le, fun q j hj hq => by
    rcases hq with hq | ⟨_, hq⟩
    · by_cases e : q = a
      · subst e; exact h.ent q j hj (.inr ⟨rfl, hj⟩)
      · exact h.ent q j hj (.inl (by omega))
    · omega⟩
theorem Half.old {ν : α → Nat → α} {k : Nat} {keys : List α} {M : Dfa} {a i L : Nat} (h : Half ν k keys M a i L) (_ : i < k) (hx : nx M a i < L) : Half ν k keys M a (i + 1) L :=
  ⟨h.aL, h.le, fun q j hj hq => by
    by_cases e : q = a ∧ j = i
    · rw [e.1, e.2]; exact hx
    · exact h.ent q j hj (by omega)⟩
/-- A new key is the next one. -/
theorem Half.fresh {ν : α → Nat → α} {k : Nat} {keys : List α} {M : Dfa} {a i L : Nat} (h : Half ν k keys M a i L) (hk : M.k = k) (hi : i < k) (b : Bf M) (hn : M.next.length = keys.length) (hlt : nx M a i < keys.length) (hx : ¬ nx M a i < L) :
    nx M a i = L ∧ L < keys.length ∧ Par M L a i ∧ Half ν k keys M a (i + 1) (L + 1) := by
  have haL := h.aL
  have hLn : L < keys.length := by omega
  obtain ⟨p, j, hp, hj, e, hbef⟩ := b L (by omega) (by omega)
  -- neither lies ahead of the other
  have h1 : ¬ (p < a ∨ p = a ∧ j < i) := fun hc => by
    have := h.ent p j (by omega) hc
    omega
  have h2 : ¬ (a < p ∨ a = p ∧ i < j) := fun hc => by
    have := hbef a i (by omega) hc
    omega
  have hpa : p = a := by omega
  subst hpa
  have hji : j = i := by omega
  subst hji
  refine ⟨e, hLn, ⟨hp, hj, e, fun q j' hj' hq => by have := hbef q j' hj' hq; omega⟩, by omega, by omega, fun q j' hj' hq => ?_⟩
  by_cases e2 : q = p ∧ j' = j
  · rw [e2.1, e2.2]; omega
  · have := h.ent q j' hj' (by omega)
    omega
/-- All has been gone over. -/
theorem Half.done {ν : α → Nat → α} {k : Nat} {keys : List α} {M : Dfa} {a L : Nat} (h : Half ν k keys M a k L) (hk : M.k = k) (ha : ¬ a + 1 < L) (b : Bf M) (hn : M.next.length = keys.length) : L = keys.length := by
  have haL := h.aL; have hle := h.le
  by_cases e : L = keys.length
  · exact e
  · exfalso
    obtain ⟨p, j, hp, hj, e1, _⟩ := b L (by omega) (by omega)
    have := h.ent p j (by omega) (by omega)
    omega
end
end Go.Proofs
