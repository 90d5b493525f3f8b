/-
  Plain laws: the words of a machine whose states are numbered by first words lead to those states; its first word.
-/
import Derived.Test.YtobhipohnjmnhaaWdExp
import Derived.Test.YtobhipohnjmnhaaWdAcc2
set_option linter.unusedSimpArgs false
set_option linter.unusedVariables false
set_option linter.unusedSectionVars false
namespace Go.Proofs
open Go Go.AH
set_option maxRecDepth 10000
set_option maxHeartbeats 4000000

theorem ltr_ok {k i : Nat} (hk : k ≤ 4) (hi : i < k) : badB k (ltr i) = false ∧ (ltr i).toNat - 97 = i := by
  have e : (ltr i).toNat = 97 + i := by
    have : i = 0 ∨ i = 1 ∨ i = 2 ∨ i = 3 := by omega
    rcases this with rfl | rfl | rfl | rfl <;> rfl
  refine ⟨?_, by omega⟩
  simp only [badB, e, Bool.or_eq_false_iff, decide_eq_false_iff_not]
  omega
theorem lts_ltr {k i : Nat} (hk : k ≤ 4) (hi : i < k) (w : List UInt8) : lts (w ++ [ltr i]) = lts w ++ [i] := by
  simp only [lts, List.map_append, List.map_cons, List.map_nil, (ltr_ok hk hi).2]
theorem lts_app (u v : List UInt8) : lts (u ++ v) = lts u ++ lts v := by simp [lts]
theorem lts_ok {k : Nat} {w : List UInt8} (hg : ∀ b ∈ w, badB k b = false) : Ok k (lts w) := by
  have := lts_take_ok hg w.length
  rwa [List.take_length] at this

/-- Halfway: s rows and j letters of the next have been gone over. -/
structure WInv (M : Dfa) (s j : Nat) (ws : List (List UInt8)) : Prop where
  len : ws.length = M.next.length
  empty : ∀ t, t < M.next.length → ws.getD t [] = [] → t = 0 ∨ ∀ q i, i < M.k → (q < s ∨ q = s ∧ i < j) → nx M q i ≠ t
  full : ∀ t, t < M.next.length → ws.getD t [] ≠ [] → 0 < t ∧ goW M 0 (lts (ws.getD t [])) = t ∧ ∀ b ∈ ws.getD t [], badB M.k b = false

theorem WInv.at {M : Dfa} (b : Bf M) {s j : Nat} {ws : List (List UInt8)} (v : WInv M s j ws) (hs : s < M.next.length) : goW M 0 (lts (ws.getD s [])) = s ∧ ∀ b ∈ ws.getD s [], badB M.k b = false := by
  by_cases e : ws.getD s [] = []
  · rcases v.empty s hs e with rfl | h
    · rw [e]; exact ⟨rfl, by simp⟩
    · by_cases h0 : s = 0
      · subst h0; rw [e]; exact ⟨rfl, by simp⟩
      · obtain ⟨p, i, hp, hi, e1, _⟩ := b s (by omega) hs
        exact absurd e1 (h p i hi (.inl hp))
  · exact (v.full s hs e).2

theorem WInv.step {M : Dfa} (hM : M.wf) (b : Bf M) {s j : Nat} {ws : List (List UInt8)} (v : WInv M s j ws) (hs : s < M.next.length) (hj : j < M.k) : WInv M s (j + 1) (wStep (M.next.getD s []) s ws j) := by
  have hx : nx M s j = (M.next.getD s []).getD j 0 := rfl
  have hxl := nx_lt hM hs hj
  obtain ⟨a1, a2⟩ := v.at b hs
  unfold wStep
  rw [← hx]
  split
  · next hc =>
    have hset : ∀ t, (ws.set (nx M s j) (ws.getD s [] ++ [ltr j])).getD t [] = if t = nx M s j then ws.getD s [] ++ [ltr j] else ws.getD t [] := fun t => by
      simp only [List.getD_eq_getElem?_getD, List.getElem?_set, v.len]
      by_cases e : t = nx M s j
      · subst e; simp [hxl]
      · rw [if_neg (fun h => e h.symm), if_neg e]
    refine ⟨by simp [v.len], fun t ht e => ?_, fun t ht e => ?_⟩
    · rw [hset] at e
      split at e
      · simp at e
      · next hne =>
        rcases v.empty t ht e with h | h
        · exact .inl h
        · refine .inr fun q i hi hq => ?_
          rcases hq with hq | ⟨rfl, hq⟩
          · exact h q i hi (.inl hq)
          · by_cases e2 : i = j
            · subst e2; exact fun h2 => hne h2.symm
            · exact h q i hi (.inr ⟨rfl, by omega⟩)
    · rw [hset] at e ⊢
      split
      · next he =>
        subst he
        refine ⟨hc.1, ?_, fun y hy => ?_⟩
        · rw [lts_ltr hM.k4 hj, goW_snoc, a1]
        · rcases List.mem_append.1 hy with h | h
          · exact a2 y h
          · rw [List.mem_singleton.1 h]; exact (ltr_ok hM.k4 hj).1
      · next he =>
        rw [if_neg he] at e
        exact v.full t ht e
  · next hc =>
    refine ⟨v.len, fun t ht e => ?_, v.full⟩
    rcases v.empty t ht e with h | h
    · exact .inl h
    · by_cases h0 : t = 0
      · exact .inl h0
      · refine .inr fun q i hi hq => ?_
        rcases hq with hq | ⟨rfl, hq⟩
        · exact h q i hi (.inl hq)
        · by_cases e2 : i = j
          · subst e2
            intro h2
            exact hc ⟨by omega, by rw [h2]; exact e⟩
          · exact h q i hi (.inr ⟨rfl, by omega⟩)
theorem WInv.row {M : Dfa} (hM : M.wf) (b : Bf M) {s : Nat} {ws : List (List UInt8)} (v : WInv M s 0 ws) (hs : s < M.next.length) : ∀ j, j ≤ M.k → WInv M s j (wRow (M.next.getD s []) s ws j)
  | 0, _ => by simpa [wRow] using v
  | j + 1, h => by rw [wRow_succ]; exact (WInv.row hM b v hs j (by omega)).step hM b hs (by omega)
theorem wIter_inv {M : Dfa} (hM : M.wf) (b : Bf M) : ∀ s, s ≤ M.next.length → WInv M s 0 (wIter M s)
  | 0, _ => ⟨wIter_len M 0, fun t _ _ => .inr fun q i _ h => by omega, fun t ht e => absurd (by simp [wIter, ht]) e⟩
  | s + 1, h => by
    have v := (wIter_inv hM b s (by omega)).row hM b (by omega) M.k (Nat.le_refl _)
    rw [wIter_succ]
    refine ⟨v.len, fun t ht e => ?_, v.full⟩
    rcases v.empty t ht e with h | h
    · exact .inl h
    · exact .inr fun q i hi hq => h q i hi (by omega)

/-- The first word of a state. -/
def wd (M : Dfa) (s : Nat) : List UInt8 := (wIter M s).getD s []
theorem wd_go {M : Dfa} (hM : M.wf) (b : Bf M) {s : Nat} (hs : s < M.next.length) : goW M 0 (lts (wd M s)) = s ∧ ∀ b ∈ wd M s, badB M.k b = false := (wIter_inv hM b s (by omega)).at b hs
theorem wd_len (M : Dfa) {s : Nat} (hs : s < M.next.length) : (wd M s).length ≤ M.k * s := by
  refine wIter_short M s _ ?_
  unfold wd
  rw [List.getD_eq_getElem?_getD, List.getElem?_eq_getElem (by rw [wIter_len]; exact hs)]
  exact List.getElem_mem _
theorem classes_get (M : Dfa) (i : Nat) : (classesF M)[i]? = if i < M.next.length then some (wd M i) else none := by
  simp only [classesF, wItems, List.map_map, List.getElem?_map]
  by_cases h : i < M.next.length
  · rw [List.getElem?_range h]; simp [h, wd]
  · rw [List.getElem?_eq_none (by simpa using Nat.le_of_not_lt h)]; simp [h]
theorem classes_len (M : Dfa) : (classesF M).length = M.next.length := by simp [classesF, wItems]

/-- A first word is accepted; without one no word is. -/
theorem first_some {M : Dfa} (hM : M.wf) (b : Bf M) {w : List UInt8} (e : firstF M = some w) : accW M (lts w) = true ∧ (∀ b ∈ w, badB M.k b = false) ∧ w.length ≤ M.k * M.next.length := by
  simp only [firstF, Option.map_eq_some_iff] at e
  obtain ⟨⟨s, w'⟩, h1, rfl⟩ := e
  have hg := List.find?_some h1
  have hm := List.mem_of_find?_eq_some h1
  simp only [wItems, List.mem_map, List.mem_range, Prod.mk.injEq] at hm
  obtain ⟨s', hs, rfl, rfl⟩ := hm
  obtain ⟨h2, h3⟩ := wd_go hM b hs
  have h4 := wd_len M hs
  refine ⟨?_, h3, Nat.le_trans h4 (Nat.mul_le_mul_left _ (by omega))⟩
  show M.good.getD (goW M 0 (lts (wd M s'))) false = true
  rw [h2]; exact hg
theorem first_none {M : Dfa} (hM : M.wf) (e : firstF M = none) (w : List Nat) (hw : Ok M.k w) : accW M w = false := by
  simp only [firstF, Option.map_eq_none_iff, List.find?_eq_none] at e
  have hn := hM.n1
  have hl := goW_lt hM w 0 (by omega) hw
  have := e (goW M 0 w, (wIter M (goW M 0 w)).getD (goW M 0 w) []) (List.mem_map.2 ⟨_, List.mem_range.2 hl, rfl⟩)
  simpa [accW] using this
end Go.Proofs
