/-
  Plain law: the least machine has the language of the machine.
-/
import Derived.Test.YtobhipohnjmnhaaWdC
set_option linter.unusedSimpArgs false
set_option linter.unusedVariables false
set_option linter.unusedSectionVars false
namespace Go.Proofs
open Go Go.AH
set_option maxRecDepth 10000
set_option maxHeartbeats 4000000
set_option linter.unusedSectionVars false
section
variable {α : Type} [DecidableEq α]
theorem rRow_val (ν : α → Nat → α) (most : Int) (x : α) (keys : List α) : ∀ (k : Nat) (st : List α × List Nat), rRow ν most x keys k = some st → ∀ i, i < k → st.1[st.2.getD i 0]? = some (ν x i)
  | 0, st, _ => fun i hi => by omega
  | k + 1, st, e => by
    rw [rRow_succ] at e
    cases h : rRow ν most x keys k with
    | none => rw [h] at e; simp [rStep] at e
    | some st' =>
      have ih := rRow_val ν most x keys k st' h
      have hl := (rRow_len ν most x keys k st' h).1
      rw [h] at e
      simp only [rStep, Option.bind_some] at e
      split at e
      · next hm =>
        simp only [Option.some.injEq] at e; subst e
        intro i hi
        rcases Nat.lt_or_ge i k with q | q
        · have := ih i q
          simp only [List.getD_eq_getElem?_getD] at this ⊢
          rw [List.getElem?_append_left (by omega)]; exact this
        · obtain rfl : i = k := by omega
          simp only [List.getD_eq_getElem?_getD]
          rw [List.getElem?_append_right (by omega), hl, Nat.sub_self]
          simp only [List.getElem?_cons_zero, Option.getD_some]
          rw [List.getElem?_eq_getElem (ixF_lt hm), ixF_get hm]
      · split at e
        · cases e
        · simp only [Option.some.injEq] at e; subst e
          intro i hi
          rcases Nat.lt_or_ge i k with q | q
          · have := ih i q
            simp only [List.getD_eq_getElem?_getD] at this ⊢
            have e1 : (st'.2 ++ [st'.1.length])[i]? = st'.2[i]? := List.getElem?_append_left (by omega)
            rw [e1]
            have hlt := (List.getElem?_eq_some_iff.1 this).1
            rw [List.getElem?_append_left hlt]; exact this
          · obtain rfl : i = k := by omega
            simp only [List.getD_eq_getElem?_getD]
            have e1 : (st'.2 ++ [st'.1.length])[i]? = some st'.1.length := by rw [List.getElem?_append_right (by omega), hl, Nat.sub_self]; rfl
            rw [e1]
            simp
theorem rIter_val (ν : α → Nat → α) (most : Int) (k : Nat) (start : α) : ∀ (a : Nat) (st : List α × List (List Nat)), (∀ b st, b < a → rIter ν most k start b = some st → b < st.1.length) → rIter ν most k start a = some st →
    st.1[0]? = some start ∧ ∀ j, j < a → ∀ i, i < k → ∃ x, st.1[j]? = some x ∧ st.1[(st.2.getD j []).getD i 0]? = some (ν x i)
  | 0, st, _, e => by simp [rIter] at e; subst e; exact ⟨rfl, fun j hj => by omega⟩
  | a + 1, st, hb, e => by
    simp only [rIter] at e
    cases h : rIter ν most k start a with
    | none => rw [h] at e; cases e
    | some st' =>
      have ih := rIter_val ν most k start a st' (fun b st hb' he => hb b st (by omega) he) h
      have hlr := rIter_rows ν most k start a st' (fun b st hb' he => hb b st (by omega) he) h
      have hlt := hb a st' (by omega) h
      rw [h] at e
      simp only [Option.bind_some, List.getElem?_eq_getElem hlt] at e
      cases hr : rRow ν most st'.1[a] st'.1 k with
      | none => rw [hr] at e; cases e
      | some q =>
        rw [hr] at e
        simp only [Option.map_some, Option.some.injEq] at e
        subst e
        obtain ⟨E, hE⟩ := rRow_pre ν most _ _ k q hr
        have hv := rRow_val ν most _ _ k q hr
        have up : ∀ (j : Nat) (y : α), st'.1[j]? = some y → q.1[j]? = some y := fun j y hy => by
          rw [hE, List.getElem?_append_left (List.getElem?_eq_some_iff.1 hy).1]; exact hy
        refine ⟨up _ _ ih.1, fun j hj i hi => ?_⟩
        rcases Nat.lt_or_ge j a with p | p
        · obtain ⟨x, h1, h2⟩ := ih.2 j p i hi
          refine ⟨x, up _ _ h1, ?_⟩
          simp only [List.getD_eq_getElem?_getD] at h2 ⊢
          rw [List.getElem?_append_left (by omega)]
          exact up _ _ h2
        · obtain rfl : j = a := by omega
          refine ⟨st'.1[j], up _ _ (List.getElem?_eq_getElem hlt), ?_⟩
          have := hv i hi
          simp only [List.getD_eq_getElem?_getD] at this ⊢
          rw [List.getElem?_append_right (by omega), hlr, Nat.sub_self]
          exact this
end

/-- Alike states of two machines: as good, and what follows is alike. -/
structure Sim (m M : Dfa) (B : Nat → Nat → Prop) : Prop where
  k : M.k = m.k
  start : B 0 0
  dom : ∀ s t, B s t → s < m.next.length ∧ t < M.next.length
  good : ∀ s t, B s t → m.good.getD s false = M.good.getD t false
  next : ∀ s t, B s t → ∀ i, i < m.k → B ((m.next.getD s []).getD i 0) ((M.next.getD t []).getD i 0)

/-- A state of a class. -/
theorem someF_get (m : Dfa) (c : List Nat) (many : Nat) : ∀ n, (∀ s, s < n → c.getD s 0 < many) → ∀ x, (∃ s, s < n ∧ c.getD s 0 = x) → (someF m c many n).getD x 0 < n ∧ c.getD ((someF m c many n).getD x 0) 0 = x
  | 0, _, x, ⟨s, hs, _⟩ => by omega
  | n + 1, hc, x, ⟨s, hs, hx⟩ => by
    rw [someF_succ]
    have hl := someF_len m c many n
    have hn := hc n (by omega)
    by_cases e : c.getD n 0 = x
    · subst e
      have : ((someF m c many n).set (c.getD n 0) n).getD (c.getD n 0) 0 = n := by rw [List.getD_eq_getElem?_getD, List.getElem?_set_self (by omega)]; rfl
      rw [this]
      exact ⟨by omega, rfl⟩
    · have hs' : s < n := by
        rcases Nat.lt_or_ge s n with q | q
        · exact q
        · obtain rfl : s = n := by omega
          exact absurd hx e
      have ih := someF_get m c many n (fun s hs => hc s (by omega)) x ⟨s, hs', hx⟩
      have : ((someF m c many n).set (c.getD n 0) n).getD x 0 = (someF m c many n).getD x 0 := by rw [List.getD_eq_getElem?_getD, List.getElem?_set_ne e, ← List.getD_eq_getElem?_getD]
      rw [this]
      exact ⟨by omega, ih.2⟩

theorem refI_fine (m : Dfa) : ∀ (j s t : Nat), s < m.next.length → t < m.next.length → (refI m j).1.getD s 0 = (refI m j).1.getD t 0 → m.good.getD s false = m.good.getD t false
  | 0, s, t, hs, ht, e => (clsF_eq _ _ s t hs ht).1 e
  | j + 1, s, t, hs, ht, e => by
    have h := (clsF_eq (sgnF m (refI m j).1) _ s t hs ht).1 e
    have h0 : ((refI m j).1.getD s 0 : Int) = ((refI m j).1.getD t 0 : Int) := by
      simp only [sgnF, List.cons.injEq] at h; exact h.1
    exact refI_fine m j s t hs ht (by omega)

theorem nodup_sub {α : Type} [DecidableEq α] (l D : List α) (hn : l.Nodup) (hs : ∀ x ∈ l, x ∈ D) : l.length ≤ D.length := by
  have h1 : (l.map (ixF D)).Nodup := by
    rw [List.nodup_iff_pairwise_ne, List.pairwise_map]
    exact (List.Pairwise.and_mem.1 hn).imp fun {a b} h e => h.2.2 (ixF_inj (hs a h.1) (hs b h.2.1) e)
  have h2 := nodup_lt D.length _ h1 (fun x hx => by
    obtain ⟨y, hy, rfl⟩ := List.mem_map.1 hx
    exact ixF_lt (hs y hy))
  simpa using h2

/-- No more parts: alike before, alike after. -/
theorem ddF_same {α β : Type} [DecidableEq α] [DecidableEq β] (κ : Nat → α) (κ' : Nat → β) (n : Nat) (hf : ∀ s t, s < n → t < n → κ' s = κ' t → κ s = κ t) (hl : (ddF κ' n).length ≤ (ddF κ n).length) (s t : Nat) (hs : s < n) (ht : t < n) (e : κ s = κ t) : κ' s = κ' t := by
  by_cases h : κ' s = κ' t
  · exact h
  · exfalso
    have h1 := ddF_fine κ (fun u => if κ' u = κ' t then κ' s else κ' u) n (by
      intro u v hu hv
      try simp only
      split
      · next p =>
        have e1 := hf u t hu ht p
        split
        · next q => intro _; rw [e1, hf v t hv ht q]
        · next q => intro w; rw [e1, ← e]; exact hf s v hs hv w
      · next p =>
        split
        · next q => intro w; rw [hf u s hu hs w, hf v t hv ht q, e]
        · next q => intro w; exact hf u v hu hv w)
    have h2 := nodup_sub (κ' t :: ddF (fun u => if κ' u = κ' t then κ' s else κ' u) n) (ddF κ' n) (by
      rw [List.nodup_cons]
      refine ⟨fun w => ?_, ddF_nodup _ _⟩
      obtain ⟨u, hu, hw⟩ := (mem_ddF _ _ n).1 w
      try simp only at hw
      split at hw
      · exact h hw
      · next p => exact p hw) (by
      intro x hx
      rcases List.mem_cons.1 hx with rfl | hx
      · exact (mem_ddF _ _ n).2 ⟨t, ht, rfl⟩
      · obtain ⟨u, hu, hw⟩ := (mem_ddF _ _ n).1 hx
        try simp only at hw
        split at hw
        · exact (mem_ddF _ _ n).2 ⟨s, hs, hw⟩
        · exact (mem_ddF _ _ n).2 ⟨u, hu, hw⟩)
    simp only [List.length_cons] at h2
    omega

theorem refI_next (m : Dfa) (hm : m.wf) (j s t : Nat) (hs : s < m.next.length) (ht : t < m.next.length) (e : (refI m (j + 1)).1.getD s 0 = (refI m (j + 1)).1.getD t 0) :
    (refI m j).1.getD s 0 = (refI m j).1.getD t 0 ∧ ∀ i, i < m.k → (refI m j).1.getD ((m.next.getD s []).getD i 0) 0 = (refI m j).1.getD ((m.next.getD t []).getD i 0) 0 := by
  have h := (clsF_eq (sgnF m (refI m j).1) _ s t hs ht).1 e
  simp only [sgnF, List.cons.injEq] at h
  refine ⟨by omega, fun i hi => ?_⟩
  have hk := hm.k4
  have := congrArg (fun l => l[i]?) h.2
  simp only [List.getElem?_map, List.getElem?_range (show i < 4 by omega), Option.map_some, hi, if_true, Option.some.injEq] at this
  omega

theorem refI_stable (m : Dfa) (hm : m.wf) (J : Nat) (a2 : (refI m (J + 1)).2 = (refI m J).2) (s t : Nat) (hs : s < m.next.length) (ht : t < m.next.length) (e : (refI m J).1.getD s 0 = (refI m J).1.getD t 0) :
    ∀ i, i < m.k → (refI m J).1.getD ((m.next.getD s []).getD i 0) 0 = (refI m J).1.getD ((m.next.getD t []).getD i 0) 0 := by
  have key : (refI m (J + 1)).1.getD s 0 = (refI m (J + 1)).1.getD t 0 := by
    refine (clsF_eq (sgnF m (refI m J).1) _ s t hs ht).2 ?_
    have hf : ∀ s t, s < m.next.length → t < m.next.length → sgnF m (refI m J).1 s = sgnF m (refI m J).1 t → (refI m J).1.getD s 0 = (refI m J).1.getD t 0 := fun s t _ _ h => by
      simp only [sgnF, List.cons.injEq] at h; omega
    cases J with
    | zero =>
      exact ddF_same (fun s => m.good.getD s false) _ _ (fun s t hs ht h => (clsF_eq (fun s => m.good.getD s false) _ s t hs ht).1 (hf s t hs ht h)) (Nat.le_of_eq a2) s t hs ht ((clsF_eq (fun s => m.good.getD s false) _ s t hs ht).1 e)
    | succ J =>
      exact ddF_same (sgnF m (refI m J).1) _ _ (fun s t hs ht h => (clsF_eq (sgnF m (refI m J).1) _ s t hs ht).1 (hf s t hs ht h)) (Nat.le_of_eq a2) s t hs ht ((clsF_eq (sgnF m (refI m J).1) _ s t hs ht).1 e)
  exact (refI_next m hm J s t hs ht key).2

theorem LstOut.sim {m M : Dfa} (hm : m.wf) (l : LstOut m M) : ∃ B, Sim m M B := by
  obtain ⟨J, F, keys, rows, a1, a2, a3, a4, a5, rfl⟩ := l
  obtain ⟨v1, v2⟩ := rIter_val _ _ _ _ F _ a5 a3
  have hrl := rIter_rows _ _ _ _ F _ a5 a3
  simp only at v1 v2 hrl
  have h0 := (List.getElem?_eq_some_iff.1 v1).1
  have hn1 := hm.n1
  have some_ok : ∀ s, s < m.next.length → (someF m (refI m J).1 (refI m J).2 m.next.length).getD ((refI m J).1.getD s 0) 0 < m.next.length ∧ (refI m J).1.getD ((someF m (refI m J).1 (refI m J).2 m.next.length).getD ((refI m J).1.getD s 0) 0) 0 = (refI m J).1.getD s 0 :=
    fun s hs => someF_get m _ _ _ (fun s hs => refI_lt m J s hs) _ ⟨s, hs, rfl⟩
  refine ⟨fun s j => s < m.next.length ∧ keys[j]? = some ((refI m J).1.getD s 0), rfl, ⟨by omega, v1⟩, fun s t h => ⟨h.1, ?_⟩, fun s t h => ?_, fun s t h i hi => ?_⟩
  · have := (List.getElem?_eq_some_iff.1 h.2).1
    simp only; omega
  · obtain ⟨hs, ht⟩ := h
    obtain ⟨p1, p2⟩ := some_ok s hs
    simp only [List.getD_eq_getElem?_getD, List.getElem?_map, ht, Option.map_some, Option.getD_some]
    have := refI_fine m J s _ hs p1 p2.symm
    simpa only [List.getD_eq_getElem?_getD] using this
  · obtain ⟨hs, ht⟩ := h
    have htl := (List.getElem?_eq_some_iff.1 ht).1
    obtain ⟨x, w1, w2⟩ := v2 t (by omega) i hi
    rw [ht] at w1
    cases w1
    obtain ⟨p1, p2⟩ := some_ok s hs
    have hlt : (m.next.getD s []).getD i 0 < m.next.length := by
      have hr : (m.next[s]).length = m.k := hm.rl _ (List.getElem_mem hs)
      have e1 : m.next.getD s [] = m.next[s] := by simp [hs]
      rw [e1]
      have e2 : m.next[s].getD i 0 = m.next[s][i]'(by omega) := by simp [hr, hi]
      rw [e2]
      exact hm.lt _ (List.getElem_mem hs) _ (List.getElem_mem _)
    refine ⟨hlt, ?_⟩
    rw [w2, stepC]
    rw [refI_stable m hm J a2 _ s p1 hs p2 i hi]
theorem least_sim {m : Dfa} (hm : m.wf) : ∃ B, Sim m (leastF m) B := (lst_ok hm).sim hm
end Go.Proofs
