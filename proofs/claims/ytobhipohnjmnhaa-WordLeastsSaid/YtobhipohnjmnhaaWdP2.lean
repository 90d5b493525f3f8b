/-
  Plain law: the first words of the least machine are those of the machine.
-/
import Derived.Test.YtobhipohnjmnhaaWdP1
import Derived.Test.YtobhipohnjmnhaaWdV
set_option linter.unusedSimpArgs false
set_option linter.unusedVariables false
set_option linter.unusedSectionVars false
namespace Go.Proofs
open Go Go.AH
set_option maxRecDepth 10000
set_option maxHeartbeats 4000000

theorem mem_getD (l : List Nat) (i : Nat) (h : i < l.length) : l.getD i 0 ∈ l := by
  rw [List.getD_eq_getElem?_getD, List.getElem?_eq_getElem h]; exact List.getElem_mem _
theorem flatMap_same {α β : Type} (f g : α → List β) : ∀ (l : List α), (∀ x ∈ l, f x = g x) → l.flatMap f = l.flatMap g
  | [], _ => rfl
  | x :: l, h => by rw [List.flatMap_cons, List.flatMap_cons, h x (by simp), flatMap_same f g l fun y hy => h y (by simp [hy])]
/-- Where letters lead. -/
def goW (m : Dfa) : Nat → List Nat → Nat
  | s, [] => s
  | s, i :: w => goW m ((m.next.getD s []).getD i 0) w
theorem goW_app (m : Dfa) : ∀ (u v : List Nat) (s : Nat), goW m s (u ++ v) = goW m (goW m s u) v
  | [], v, s => rfl
  | i :: u, v, s => goW_app m u v _
theorem row_len {m : Dfa} (hm : m.wf) {s : Nat} (hs : s < m.next.length) : (m.next.getD s []).length = m.k := by
  have e1 : m.next.getD s [] = m.next[s] := by simp [hs]
  rw [e1]; exact hm.rl _ (List.getElem_mem hs)
theorem row_lt {m : Dfa} (hm : m.wf) {s i : Nat} (hs : s < m.next.length) (hi : i < m.k) : (m.next.getD s []).getD i 0 < m.next.length := by
  have hr := row_len hm hs
  have e1 : m.next.getD s [] = m.next[s] := by simp [hs]
  have e2 : (m.next.getD s []).getD i 0 = (m.next.getD s [])[i]'(by omega) := by rw [List.getD_eq_getElem?_getD, List.getElem?_eq_getElem (by omega)]; rfl
  rw [e2]
  refine hm.lt (m.next.getD s []) ?_ _ (List.getElem_mem _)
  rw [e1]; exact List.getElem_mem hs
theorem goW_lt {m : Dfa} (hm : m.wf) : ∀ (w : List Nat) (s : Nat), s < m.next.length → (∀ i ∈ w, i < m.k) → goW m s w < m.next.length
  | [], s, hs, _ => hs
  | i :: w, s, hs, h => goW_lt hm w _ (row_lt hm hs (h i (by simp))) fun j hj => h j (by simp [hj])
theorem canR_succ (m : Dfa) (n s : Nat) (hs : s < m.next.length) : (canR m (n + 1)).getD s false = (m.next.getD s []).any fun t => (canR m n).getD t false := by
  simp only [canR]
  rw [List.getD_eq_getElem?_getD, List.getElem?_map, List.getElem?_range hs]
  rfl
theorem canR_iff {m : Dfa} (hm : m.wf) : ∀ (n s : Nat), s < m.next.length → ((canR m n).getD s false = true ↔ ∃ w : List Nat, w.length = n ∧ (∀ i ∈ w, i < m.k) ∧ m.good.getD (goW m s w) false = true)
  | 0, s, hs => by
    constructor
    · intro h; exact ⟨[], rfl, by simp, h⟩
    · rintro ⟨w, hw, _, h⟩
      obtain rfl := List.length_eq_zero_iff.1 hw
      exact h
  | n + 1, s, hs => by
    have hr := row_len hm hs
    rw [canR_succ m n s hs, List.any_eq_true]
    constructor
    · rintro ⟨t, ht, hc⟩
      obtain ⟨i, hi, hti⟩ := List.mem_iff_getElem.1 ht
      have hgd : (m.next.getD s []).getD i 0 = t := by rw [List.getD_eq_getElem?_getD, List.getElem?_eq_getElem hi]; exact hti
      have hl := row_lt hm hs (i := i) (by omega)
      rw [hgd] at hl
      obtain ⟨w, h1, h2, h3⟩ := (canR_iff hm n t hl).1 hc
      refine ⟨i :: w, by simp [h1], ?_, ?_⟩
      · intro j hj
        rcases List.mem_cons.1 hj with rfl | hj
        · omega
        · exact h2 j hj
      · rw [goW, hgd]; exact h3
    · rintro ⟨w, h1, h2, h3⟩
      match w, h1 with
      | i :: w, h1 =>
      have hi := h2 i (by simp)
      have hl := row_lt hm hs hi
      refine ⟨(m.next.getD s []).getD i 0, ?_, (canR_iff hm n _ hl).2 ⟨w, by simpa using h1, fun j hj => h2 j (by simp [hj]), h3⟩⟩
      exact mem_getD _ _ (by omega)

theorem noneA_le (m : Dfa) : ∀ T, noneA m T ≤ T
  | 0 => by simp [noneA]
  | T + 1 => by have := noneA_le m T; rw [noneA]; split <;> omega
theorem noneA_none (m : Dfa) : ∀ T n, n < T → T ≤ n + noneA m T → (canR m n).getD 0 false = false
  | 0, n, h, _ => by omega
  | T + 1, n, h, h2 => by
    rw [noneA] at h2
    cases hc : (canR m T).getD 0 false with
    | true => rw [hc, if_pos rfl] at h2; omega
    | false =>
      rw [hc] at h2
      simp only [Bool.false_eq_true, if_false] at h2
      rcases Nat.lt_or_ge n T with q | q
      · exact noneA_none m T n q (by omega)
      · obtain rfl : n = T := by omega
        exact hc

/-- Two equal ones among more than there are. -/
theorem pigeon (N : Nat) (f : Nat → Nat) (hf : ∀ i, i ≤ N → f i < N) : ∃ i j, i < j ∧ j ≤ N ∧ f i = f j := by
  refine Classical.byContradiction fun hno => ?_
  have hn : ((List.range (N + 1)).map f).Nodup := by
    rw [List.nodup_iff_pairwise_ne, List.pairwise_iff_getElem]
    intro i j hi hj hij e
    simp only [List.length_map, List.length_range] at hi hj
    simp only [List.getElem_map, List.getElem_range] at e
    exact hno ⟨i, j, hij, by omega, e⟩
  have := nodup_lt N _ hn (by
    intro x hx
    obtain ⟨i, hi, rfl⟩ := List.mem_map.1 hx
    exact hf i (by have := List.mem_range.1 hi; omega))
  simp at this
  omega

/-- After as many lengths without a word as there are states there is none for ever. -/
theorem dead {m : Dfa} (hm : m.wf) (T : Nat) (hT : m.next.length < noneA m T) : ∀ n, T ≤ n → (canR m n).getD 0 false = false := by
  intro n
  induction n using Nat.strongRecOn with
  | _ n ih =>
  intro hn
  have hn1 := hm.n1
  have hle := noneA_le m T
  cases hc : (canR m n).getD 0 false with
  | false => rfl
  | true =>
    exfalso
    obtain ⟨w, h1, h2, h3⟩ := (canR_iff hm n 0 (by omega)).1 hc
    obtain ⟨i, j, hij, hj, e⟩ := pigeon m.next.length (fun i => goW m 0 (w.take i)) (fun i _ => goW_lt hm _ 0 (by omega) fun x hx => h2 x (List.mem_of_mem_take hx))
    try simp only at e
    have hw : goW m 0 (w.take i ++ w.drop j) = goW m 0 w := by
      rw [goW_app, e, ← goW_app, List.take_append_drop]
    have hl : (w.take i ++ w.drop j).length = n - (j - i) := by
      rw [List.length_append, List.length_take, List.length_drop]; omega
    have hc2 := (canR_iff hm (n - (j - i)) 0 (by omega)).2 ⟨w.take i ++ w.drop j, hl, fun x hx => by
      rcases List.mem_append.1 hx with q | q
      · exact h2 x (List.mem_of_mem_take q)
      · exact h2 x (List.mem_of_mem_drop q), by rw [hw]; exact h3⟩
    rcases Nat.lt_or_ge (n - (j - i)) T with q | q
    · rw [noneA_none m T _ q (by omega)] at hc2; cases hc2
    · rw [ih _ (by omega) q] at hc2; cases hc2

theorem uptoL_dead (m : Dfa) (T : Nat) (h : ∀ n, T ≤ n → (canR m n).getD 0 false = false) : ∀ d, uptoL m (T + d) = uptoL m T
  | 0 => rfl
  | d + 1 => by
    rw [show T + (d + 1) = (T + d) + 1 from by omega, uptoL_succ, uptoL_dead m T h d, lenL, h (T + d) (by omega)]
    simp
theorem uptoL_pre (m : Dfa) (T : Nat) : ∀ d, ∃ E, uptoL m (T + d) = uptoL m T ++ E
  | 0 => ⟨[], by simp⟩
  | d + 1 => by
    obtain ⟨E, hE⟩ := uptoL_pre m T d
    exact ⟨E ++ lenL m (T + d), by rw [show T + (d + 1) = (T + d) + 1 from by omega, uptoL_succ, hE, List.append_assoc]⟩
theorem wordsF_any {m : Dfa} (hm : m.wf) (most X : Nat) (hX : tEnd m most ≤ X) : wordsF m most = (uptoL m X).take most := by
  obtain ⟨t1, t2, t3⟩ := tEnd_spec m hm most
  obtain ⟨d, rfl⟩ : ∃ d, X = tEnd m most + d := ⟨X - tEnd m most, by omega⟩
  unfold wordsF
  rcases t2 with q | q
  · rw [uptoL_dead m _ (dead hm _ q) d]
  · obtain ⟨E, hE⟩ := uptoL_pre m (tEnd m most) d
    rw [hE, List.take_append_of_le_length q]

section
variable {m M : Dfa} {B : Nat → Nat → Prop} (S : Sim m M B) (hm : m.wf) (hM : M.wf)
include S hm hM
theorem Sim.can : ∀ n s t, B s t → (canR m n).getD s false = (canR M n).getD t false
  | 0, s, t, h => S.good s t h
  | n + 1, s, t, h => by
    obtain ⟨hs, ht⟩ := S.dom s t h
    rw [canR_succ m n s hs, canR_succ M n t ht, Bool.eq_iff_iff, List.any_eq_true, List.any_eq_true]
    have r1 := row_len hm hs
    have r2 := row_len hM ht
    rw [S.k] at r2
    have nx := S.next s t h
    constructor
    · rintro ⟨x, hx, hc⟩
      obtain ⟨i, hi, rfl⟩ := List.mem_iff_getElem.1 hx
      have e := Sim.can n _ _ (nx i (by omega))
      refine ⟨(M.next.getD t []).getD i 0, ?_, ?_⟩
      · exact mem_getD _ _ (by omega)
      · rw [← e, List.getD_eq_getElem?_getD (l := m.next.getD s []), List.getElem?_eq_getElem (by omega)]; exact hc
    · rintro ⟨x, hx, hc⟩
      obtain ⟨i, hi, rfl⟩ := List.mem_iff_getElem.1 hx
      have e := Sim.can n _ _ (nx i (by omega))
      refine ⟨(m.next.getD s []).getD i 0, ?_, ?_⟩
      · exact mem_getD _ _ (by omega)
      · rw [e, List.getD_eq_getElem?_getD (l := M.next.getD t []), List.getElem?_eq_getElem (by omega)]; exact hc
theorem Sim.spell : ∀ n s t r, B s t → spellL m (canR m) n s r = spellL M (canR M) n t r
  | 0, s, t, r, h => rfl
  | n + 1, s, t, r, h => by
    simp only [spellL, S.k]
    refine flatMap_same _ _ _ fun i hi => ?_
    have hb := S.next s t h i (List.mem_range.1 hi)
    rw [S.can hm hM n _ _ hb, Sim.spell n _ _ _ hb]
theorem Sim.lenL (n : Nat) : lenL m n = lenL M n := by
  unfold Go.Proofs.lenL
  rw [S.can hm hM n 0 0 S.start, S.spell hm hM n 0 0 [] S.start]
theorem Sim.words (most : Nat) : wordsF M most = wordsF m most := by
  have hu : ∀ X, uptoL M X = uptoL m X := fun X => by
    unfold uptoL
    exact flatMap_same _ _ _ fun n _ => (S.lenL hm hM n).symm
  rw [wordsF_any hM most (max (tEnd m most) (tEnd M most)) (by omega), wordsF_any hm most (max (tEnd m most) (tEnd M most)) (by omega), hu]
end
theorem words_least {m : Dfa} (hm : m.wf) (most : Nat) : wordsF (leastF m) most = wordsF m most := by
  obtain ⟨B, S⟩ := least_sim hm
  exact S.words hm (least_wf hm) most
end Go.Proofs
