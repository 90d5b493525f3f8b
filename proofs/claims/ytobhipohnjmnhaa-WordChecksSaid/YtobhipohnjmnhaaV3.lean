/-
  Texts: WdP1 WdP2 WdK WdK2.
-/
import Derived.Test.YtobhipohnjmnhaaV2
import Derived.Test.YtobhipohnjmnhaaV4
set_option linter.unusedSimpArgs false
set_option linter.unusedVariables false
set_option linter.unusedSectionVars false
section
/-
  Plain law: the least machine has the language of the machine.
-/
namespace Go.Proofs
open Go Go.AH
set_option maxRecDepth 10000
set_option maxHeartbeats 4000000
set_option linter.unusedSectionVars false
section
variable {α : Type} [DecidableEq α]
theorem rRow_val (ν : α → Nat → α) (most : Int) (x : α) (keys : List α) : ∀ (k : Nat) (st : List α × List Nat), rRow ν most x keys k = some st → ∀ i, i < k → st.1[st.2.getD i 0]? = some (ν x i)
  | 0, st, _ => fun i hi => by omega
  | k + 1, st, e => by
    rw [rRow_succ] at e
    cases h : rRow ν most x keys k with
    | none => rw [h] at e; simp [rStep] at e
    | some st' =>
      have ih := rRow_val ν most x keys k st' h
      have hl := (rRow_len ν most x keys k st' h).1
      rw [h] at e
      simp only [rStep, Option.bind_some] at e
      split at e
      · next hm =>
        simp only [Option.some.injEq] at e; subst e
        intro i hi
        rcases Nat.lt_or_ge i k with q | q
        · have := ih i q
          simp only [List.getD_eq_getElem?_getD] at this ⊢
          rw [List.getElem?_append_left (by omega)]; exact this
        · obtain rfl : i = k := by omega
          simp only [List.getD_eq_getElem?_getD]
          rw [List.getElem?_append_right (by omega), hl, Nat.sub_self]
          simp only [List.getElem?_cons_zero, Option.getD_some]
          rw [List.getElem?_eq_getElem (ixF_lt hm), ixF_get hm]
      · split at e
        · cases e
        · simp only [Option.some.injEq] at e; subst e
          intro i hi
          rcases Nat.lt_or_ge i k with q | q
          · have := ih i q
            simp only [List.getD_eq_getElem?_getD] at this ⊢
            have e1 : (st'.2 ++ [st'.1.length])[i]? = st'.2[i]? := List.getElem?_append_left (by omega)
            rw [e1]
            have hlt := (List.getElem?_eq_some_iff.1 this).1
            rw [List.getElem?_append_left hlt]; exact this
          · obtain rfl : i = k := by omega
            simp only [List.getD_eq_getElem?_getD]
            have e1 : (st'.2 ++ [st'.1.length])[i]? = some st'.1.length := by rw [List.getElem?_append_right (by omega), hl, Nat.sub_self]; rfl
            rw [e1]
            simp
theorem rIter_val (ν : α → Nat → α) (most : Int) (k : Nat) (start : α) : ∀ (a : Nat) (st : List α × List (List Nat)), (∀ b st, b < a → rIter ν most k start b = some st → b < st.1.length) → rIter ν most k start a = some st →
    st.1[0]? = some start ∧ ∀ j, j < a → ∀ i, i < k → ∃ x, st.1[j]? = some x ∧ st.1[(st.2.getD j []).getD i 0]? = some (ν x i)
  | 0, st, _, e => by simp [rIter] at e; subst e; exact ⟨rfl, fun j hj => by omega⟩
  | a + 1, st, hb, e => by
    simp only [rIter] at e
    cases h : rIter ν most k start a with
    | none => rw [h] at e; cases e
    | some st' =>
      have ih := rIter_val ν most k start a st' (fun b st hb' he => hb b st (by omega) he) h
      have hlr := rIter_rows ν most k start a st' (fun b st hb' he => hb b st (by omega) he) h
      have hlt := hb a st' (by omega) h
      rw [h] at e
      simp only [Option.bind_some, List.getElem?_eq_getElem hlt] at e
      cases hr : rRow ν most st'.1[a] st'.1 k with
      | none => rw [hr] at e; cases e
      | some q =>
        rw [hr] at e
        simp only [Option.map_some, Option.some.injEq] at e
        subst e
        obtain ⟨E, hE⟩ := rRow_pre ν most _ _ k q hr
        have hv := rRow_val ν most _ _ k q hr
        have up : ∀ (j : Nat) (y : α), st'.1[j]? = some y → q.1[j]? = some y := fun j y hy => by
          rw [hE, List.getElem?_append_left (List.getElem?_eq_some_iff.1 hy).1]; exact hy
        refine ⟨up _ _ ih.1, fun j hj i hi => ?_⟩
        rcases Nat.lt_or_ge j a with p | p
        · obtain ⟨x, h1, h2⟩ := ih.2 j p i hi
          refine ⟨x, up _ _ h1, ?_⟩
          simp only [List.getD_eq_getElem?_getD] at h2 ⊢
          rw [List.getElem?_append_left (by omega)]
          exact up _ _ h2
        · obtain rfl : j = a := by omega
          refine ⟨st'.1[j], up _ _ (List.getElem?_eq_getElem hlt), ?_⟩
          have := hv i hi
          simp only [List.getD_eq_getElem?_getD] at this ⊢
          rw [List.getElem?_append_right (by omega), hlr, Nat.sub_self]
          exact this
end

/-- Alike states of two machines: as good, and what follows is alike. -/
structure Sim (m M : Dfa) (B : Nat → Nat → Prop) : Prop where
  k : M.k = m.k
  start : B 0 0
  dom : ∀ s t, B s t → s < m.next.length ∧ t < M.next.length
  good : ∀ s t, B s t → m.good.getD s false = M.good.getD t false
  next : ∀ s t, B s t → ∀ i, i < m.k → B ((m.next.getD s []).getD i 0) ((M.next.getD t []).getD i 0)

/-- A state of a class. -/
theorem someF_get (m : Dfa) (c : List Nat) (many : Nat) : ∀ n, (∀ s, s < n → c.getD s 0 < many) → ∀ x, (∃ s, s < n ∧ c.getD s 0 = x) → (someF m c many n).getD x 0 < n ∧ c.getD ((someF m c many n).getD x 0) 0 = x
  | 0, _, x, ⟨s, hs, _⟩ => by omega
  | n + 1, hc, x, ⟨s, hs, hx⟩ => by
    rw [someF_succ]
    have hl := someF_len m c many n
    have hn := hc n (by omega)
    by_cases e : c.getD n 0 = x
    · subst e
      have : ((someF m c many n).set (c.getD n 0) n).getD (c.getD n 0) 0 = n := by rw [List.getD_eq_getElem?_getD, List.getElem?_set_self (by omega)]; rfl
      rw [this]
      exact ⟨by omega, rfl⟩
    · have hs' : s < n := by
        rcases Nat.lt_or_ge s n with q | q
        · exact q
        · obtain rfl : s = n := by omega
          exact absurd hx e
      have ih := someF_get m c many n (fun s hs => hc s (by omega)) x ⟨s, hs', hx⟩
      have : ((someF m c many n).set (c.getD n 0) n).getD x 0 = (someF m c many n).getD x 0 := by rw [List.getD_eq_getElem?_getD, List.getElem?_set_ne e, ← List.getD_eq_getElem?_getD]
      rw [this]
      exact ⟨by omega, ih.2⟩

theorem refI_fine (m : Dfa) : ∀ (j s t : Nat), s < m.next.length → t < m.next.length → (refI m j).1.getD s 0 = (refI m j).1.getD t 0 → m.good.getD s false = m.good.getD t false
  | 0, s, t, hs, ht, e => (clsF_eq _ _ s t hs ht).1 e
  | j + 1, s, t, hs, ht, e => by
    have h := (clsF_eq (sgnF m (refI m j).1) _ s t hs ht).1 e
    have h0 : ((refI m j).1.getD s 0 : Int) = ((refI m j).1.getD t 0 : Int) := by
      simp only [sgnF, List.cons.injEq] at h; exact h.1
    exact refI_fine m j s t hs ht (by omega)

theorem nodup_sub {α : Type} [DecidableEq α] (l D : List α) (hn : l.Nodup) (hs : ∀ x ∈ l, x ∈ D) : l.length ≤ D.length := by
  have h1 : (l.map (ixF D)).Nodup := by
    rw [List.nodup_iff_pairwise_ne, List.pairwise_map]
    exact (List.Pairwise.and_mem.1 hn).imp fun {a b} h e => h.2.2 (ixF_inj (hs a h.1) (hs b h.2.1) e)
  have h2 := nodup_lt D.length _ h1 (fun x hx => by
    obtain ⟨y, hy, rfl⟩ := List.mem_map.1 hx
    exact ixF_lt (hs y hy))
  simpa using h2

/-- No more parts: alike before, alike after. -/
theorem ddF_same {α β : Type} [DecidableEq α] [DecidableEq β] (κ : Nat → α) (κ' : Nat → β) (n : Nat) (hf : ∀ s t, s < n → t < n → κ' s = κ' t → κ s = κ t) (hl : (ddF κ' n).length ≤ (ddF κ n).length) (s t : Nat) (hs : s < n) (ht : t < n) (e : κ s = κ t) : κ' s = κ' t := by
  by_cases h : κ' s = κ' t
  · exact h
  · exfalso
    have h1 := ddF_fine κ (fun u => if κ' u = κ' t then κ' s else κ' u) n (by
      intro u v hu hv
      try simp only
      split
      · next p =>
        have e1 := hf u t hu ht p
        split
        · next q => intro _; rw [e1, hf v t hv ht q]
        · next q => intro w; rw [e1, ← e]; exact hf s v hs hv w
      · next p =>
        split
        · next q => intro w; rw [hf u s hu hs w, hf v t hv ht q, e]
        · next q => intro w; exact hf u v hu hv w)
    have h2 := nodup_sub (κ' t :: ddF (fun u => if κ' u = κ' t then κ' s else κ' u) n) (ddF κ' n) (by
      rw [List.nodup_cons]
      refine ⟨fun w => ?_, ddF_nodup _ _⟩
      obtain ⟨u, hu, hw⟩ := (mem_ddF _ _ n).1 w
      try simp only at hw
      split at hw
      · exact h hw
      · next p => exact p hw) (by
      intro x hx
      rcases List.mem_cons.1 hx with rfl | hx
      · exact (mem_ddF _ _ n).2 ⟨t, ht, rfl⟩
      · obtain ⟨u, hu, hw⟩ := (mem_ddF _ _ n).1 hx
        try simp only at hw
        split at hw
        · exact (mem_ddF _ _ n).2 ⟨s, hs, hw⟩
        · exact (mem_ddF _ _ n).2 ⟨u, hu, hw⟩)
    simp only [List.length_cons] at h2
    omega

theorem refI_next (m : Dfa) (hm : m.wf) (j s t : Nat) (hs : s < m.next.length) (ht : t < m.next.length) (e : (refI m (j + 1)).1.getD s 0 = (refI m (j + 1)).1.getD t 0) :
    (refI m j).1.getD s 0 = (refI m j).1.getD t 0 ∧ ∀ i, i < m.k → (refI m j).1.getD ((m.next.getD s []).getD i 0) 0 = (refI m j).1.getD ((m.next.getD t []).getD i 0) 0 := by
  have h := (clsF_eq (sgnF m (refI m j).1) _ s t hs ht).1 e
  simp only [sgnF, List.cons.injEq] at h
  refine ⟨by omega, fun i hi => ?_⟩
  have hk := hm.k4
  have := congrArg (fun l => l[i]?) h.2
  simp only [List.getElem?_map, List.getElem?_range (show i < 4 by omega), Option.map_some, hi, if_true, Option.some.injEq] at this
  omega

theorem refI_stable (m : Dfa) (hm : m.wf) (J : Nat) (a2 : (refI m (J + 1)).2 = (refI m J).2) (s t : Nat) (hs : s < m.next.length) (ht : t < m.next.length) (e : (refI m J).1.getD s 0 = (refI m J).1.getD t 0) :
    ∀ i, i < m.k → (refI m J).1.getD ((m.next.getD s []).getD i 0) 0 = (refI m J).1.getD ((m.next.getD t []).getD i 0) 0 := by
  have key : (refI m (J + 1)).1.getD s 0 = (refI m (J + 1)).1.getD t 0 := by
    refine (clsF_eq (sgnF m (refI m J).1) _ s t hs ht).2 ?_
    have hf : ∀ s t, s < m.next.length → t < m.next.length → sgnF m (refI m J).1 s = sgnF m (refI m J).1 t → (refI m J).1.getD s 0 = (refI m J).1.getD t 0 := fun s t _ _ h => by
      simp only [sgnF, List.cons.injEq] at h; omega
    cases J with
    | zero =>
      exact ddF_same (fun s => m.good.getD s false) _ _ (fun s t hs ht h => (clsF_eq (fun s => m.good.getD s false) _ s t hs ht).1 (hf s t hs ht h)) (Nat.le_of_eq a2) s t hs ht ((clsF_eq (fun s => m.good.getD s false) _ s t hs ht).1 e)
    | succ J =>
      exact ddF_same (sgnF m (refI m J).1) _ _ (fun s t hs ht h => (clsF_eq (sgnF m (refI m J).1) _ s t hs ht).1 (hf s t hs ht h)) (Nat.le_of_eq a2) s t hs ht ((clsF_eq (sgnF m (refI m J).1) _ s t hs ht).1 e)
  exact (refI_next m hm J s t hs ht key).2

theorem LstOut.sim {m M : Dfa} (hm : m.wf) (l : LstOut m M) : ∃ B, Sim m M B := by
  obtain ⟨J, F, keys, rows, a1, a2, a3, a4, a5, rfl⟩ := l
  obtain ⟨v1, v2⟩ := rIter_val _ _ _ _ F _ a5 a3
  have hrl := rIter_rows _ _ _ _ F _ a5 a3
  simp only at v1 v2 hrl
  have h0 := (List.getElem?_eq_some_iff.1 v1).1
  have hn1 := hm.n1
  have some_ok : ∀ s, s < m.next.length → (someF m (refI m J).1 (refI m J).2 m.next.length).getD ((refI m J).1.getD s 0) 0 < m.next.length ∧ (refI m J).1.getD ((someF m (refI m J).1 (refI m J).2 m.next.length).getD ((refI m J).1.getD s 0) 0) 0 = (refI m J).1.getD s 0 :=
    fun s hs => someF_get m _ _ _ (fun s hs => refI_lt m J s hs) _ ⟨s, hs, rfl⟩
  refine ⟨fun s j => s < m.next.length ∧ keys[j]? = some ((refI m J).1.getD s 0), rfl, ⟨by omega, v1⟩, fun s t h => ⟨h.1, ?_⟩, fun s t h => ?_, fun s t h i hi => ?_⟩
  · have := (List.getElem?_eq_some_iff.1 h.2).1
    simp only; omega
  · obtain ⟨hs, ht⟩ := h
    obtain ⟨p1, p2⟩ := some_ok s hs
    simp only [List.getD_eq_getElem?_getD, List.getElem?_map, ht, Option.map_some, Option.getD_some]
    have := refI_fine m J s _ hs p1 p2.symm
    simpa only [List.getD_eq_getElem?_getD] using this
  · obtain ⟨hs, ht⟩ := h
    have htl := (List.getElem?_eq_some_iff.1 ht).1
    obtain ⟨x, w1, w2⟩ := v2 t (by omega) i hi
    rw [ht] at w1
    cases w1
    obtain ⟨p1, p2⟩ := some_ok s hs
    have hlt : (m.next.getD s []).getD i 0 < m.next.length := by
      have hr : (m.next[s]).length = m.k := hm.rl _ (List.getElem_mem hs)
      have e1 : m.next.getD s [] = m.next[s] := by simp [hs]
      rw [e1]
      have e2 : m.next[s].getD i 0 = m.next[s][i]'(by omega) := by simp [hr, hi]
      rw [e2]
      exact hm.lt _ (List.getElem_mem hs) _ (List.getElem_mem _)
    refine ⟨hlt, ?_⟩
    rw [w2, stepC]
    rw [refI_stable m hm J a2 _ s p1 hs p2 i hi]
theorem least_sim {m : Dfa} (hm : m.wf) : ∃ B, Sim m (leastF m) B := (lst_ok hm).sim hm
end Go.Proofs

end

section
/-
  Plain law: the first words of the least machine are those of the machine.
-/
namespace Go.Proofs
open Go Go.AH
set_option maxRecDepth 10000
set_option maxHeartbeats 4000000

theorem mem_getD (l : List Nat) (i : Nat) (h : i < l.length) : l.getD i 0 ∈ l := by
  rw [List.getD_eq_getElem?_getD, List.getElem?_eq_getElem h]; exact List.getElem_mem _
theorem flatMap_same {α β : Type} (f g : α → List β) : ∀ (l : List α), (∀ x ∈ l, f x = g x) → l.flatMap f = l.flatMap g
  | [], _ => rfl
  | x :: l, h => by rw [List.flatMap_cons, List.flatMap_cons, h x (by simp), flatMap_same f g l fun y hy => h y (by simp [hy])]
/-- Where letters lead. -/
def goW (m : Dfa) : Nat → List Nat → Nat
  | s, [] => s
  | s, i :: w => goW m ((m.next.getD s []).getD i 0) w
theorem goW_app (m : Dfa) : ∀ (u v : List Nat) (s : Nat), goW m s (u ++ v) = goW m (goW m s u) v
  | [], v, s => rfl
  | i :: u, v, s => goW_app m u v _
theorem row_len {m : Dfa} (hm : m.wf) {s : Nat} (hs : s < m.next.length) : (m.next.getD s []).length = m.k := by
  have e1 : m.next.getD s [] = m.next[s] := by simp [hs]
  rw [e1]; exact hm.rl _ (List.getElem_mem hs)
theorem row_lt {m : Dfa} (hm : m.wf) {s i : Nat} (hs : s < m.next.length) (hi : i < m.k) : (m.next.getD s []).getD i 0 < m.next.length := by
  have hr := row_len hm hs
  have e1 : m.next.getD s [] = m.next[s] := by simp [hs]
  have e2 : (m.next.getD s []).getD i 0 = (m.next.getD s [])[i]'(by omega) := by rw [List.getD_eq_getElem?_getD, List.getElem?_eq_getElem (by omega)]; rfl
  rw [e2]
  refine hm.lt (m.next.getD s []) ?_ _ (List.getElem_mem _)
  rw [e1]; exact List.getElem_mem hs
theorem goW_lt {m : Dfa} (hm : m.wf) : ∀ (w : List Nat) (s : Nat), s < m.next.length → (∀ i ∈ w, i < m.k) → goW m s w < m.next.length
  | [], s, hs, _ => hs
  | i :: w, s, hs, h => goW_lt hm w _ (row_lt hm hs (h i (by simp))) fun j hj => h j (by simp [hj])
theorem canR_succ (m : Dfa) (n s : Nat) (hs : s < m.next.length) : (canR m (n + 1)).getD s false = (m.next.getD s []).any fun t => (canR m n).getD t false := by
  simp only [canR]
  rw [List.getD_eq_getElem?_getD, List.getElem?_map, List.getElem?_range hs]
  rfl
theorem canR_iff {m : Dfa} (hm : m.wf) : ∀ (n s : Nat), s < m.next.length → ((canR m n).getD s false = true ↔ ∃ w : List Nat, w.length = n ∧ (∀ i ∈ w, i < m.k) ∧ m.good.getD (goW m s w) false = true)
  | 0, s, hs => by
    constructor
    · intro h; exact ⟨[], rfl, by simp, h⟩
    · rintro ⟨w, hw, _, h⟩
      obtain rfl := List.length_eq_zero_iff.1 hw
      exact h
  | n + 1, s, hs => by
    have hr := row_len hm hs
    rw [canR_succ m n s hs, List.any_eq_true]
    constructor
    · rintro ⟨t, ht, hc⟩
      obtain ⟨i, hi, hti⟩ := List.mem_iff_getElem.1 ht
      have hgd : (m.next.getD s []).getD i 0 = t := by rw [List.getD_eq_getElem?_getD, List.getElem?_eq_getElem hi]; exact hti
      have hl := row_lt hm hs (i := i) (by omega)
      rw [hgd] at hl
      obtain ⟨w, h1, h2, h3⟩ := (canR_iff hm n t hl).1 hc
      refine ⟨i :: w, by simp [h1], ?_, ?_⟩
      · intro j hj
        rcases List.mem_cons.1 hj with rfl | hj
        · omega
        · exact h2 j hj
      · rw [goW, hgd]; exact h3
    · rintro ⟨w, h1, h2, h3⟩
      match w, h1 with
      | i :: w, h1 =>
      have hi := h2 i (by simp)
      have hl := row_lt hm hs hi
      refine ⟨(m.next.getD s []).getD i 0, ?_, (canR_iff hm n _ hl).2 ⟨w, by simpa using h1, fun j hj => h2 j (by simp [hj]), h3⟩⟩
      exact mem_getD _ _ (by omega)

theorem noneA_le (m : Dfa) : ∀ T, noneA m T ≤ T
  | 0 => by simp [noneA]
  | T + 1 => by have := noneA_le m T; rw [noneA]; split <;> omega
theorem noneA_none (m : Dfa) : ∀ T n, n < T → T ≤ n + noneA m T → (canR m n).getD 0 false = false
  | 0, n, h, _ => by omega
  | T + 1, n, h, h2 => by
    rw [noneA] at h2
    cases hc : (canR m T).getD 0 false with
    | true => rw [hc, if_pos rfl] at h2; omega
    | false =>
      rw [hc] at h2
      simp only [Bool.false_eq_true, if_false] at h2
      rcases Nat.lt_or_ge n T with q | q
      · exact noneA_none m T n q (by omega)
      · obtain rfl : n = T := by omega
        exact hc

/-- Two equal ones among more than there are. -/
theorem pigeon (N : Nat) (f : Nat → Nat) (hf : ∀ i, i ≤ N → f i < N) : ∃ i j, i < j ∧ j ≤ N ∧ f i = f j := by
  refine Classical.byContradiction fun hno => ?_
  have hn : ((List.range (N + 1)).map f).Nodup := by
    rw [List.nodup_iff_pairwise_ne, List.pairwise_iff_getElem]
    intro i j hi hj hij e
    simp only [List.length_map, List.length_range] at hi hj
    simp only [List.getElem_map, List.getElem_range] at e
    exact hno ⟨i, j, hij, by omega, e⟩
  have := nodup_lt N _ hn (by
    intro x hx
    obtain ⟨i, hi, rfl⟩ := List.mem_map.1 hx
    exact hf i (by have := List.mem_range.1 hi; omega))
  simp at this
  omega

/-- After as many lengths without a word as there are states there is none for ever. -/
theorem dead {m : Dfa} (hm : m.wf) (T : Nat) (hT : m.next.length < noneA m T) : ∀ n, T ≤ n → (canR m n).getD 0 false = false := by
  intro n
  induction n using Nat.strongRecOn with
  | _ n ih =>
  intro hn
  have hn1 := hm.n1
  have hle := noneA_le m T
  cases hc : (canR m n).getD 0 false with
  | false => rfl
  | true =>
    exfalso
    obtain ⟨w, h1, h2, h3⟩ := (canR_iff hm n 0 (by omega)).1 hc
    obtain ⟨i, j, hij, hj, e⟩ := pigeon m.next.length (fun i => goW m 0 (w.take i)) (fun i _ => goW_lt hm _ 0 (by omega) fun x hx => h2 x (List.mem_of_mem_take hx))
    try simp only at e
    have hw : goW m 0 (w.take i ++ w.drop j) = goW m 0 w := by
      rw [goW_app, e, ← goW_app, List.take_append_drop]
    have hl : (w.take i ++ w.drop j).length = n - (j - i) := by
      rw [List.length_append, List.length_take, List.length_drop]; omega
    have hc2 := (canR_iff hm (n - (j - i)) 0 (by omega)).2 ⟨w.take i ++ w.drop j, hl, fun x hx => by
      rcases List.mem_append.1 hx with q | q
      · exact h2 x (List.mem_of_mem_take q)
      · exact h2 x (List.mem_of_mem_drop q), by rw [hw]; exact h3⟩
    rcases Nat.lt_or_ge (n - (j - i)) T with q | q
    · rw [noneA_none m T _ q (by omega)] at hc2; cases hc2
    · rw [ih _ (by omega) q] at hc2; cases hc2

theorem uptoL_dead (m : Dfa) (T : Nat) (h : ∀ n, T ≤ n → (canR m n).getD 0 false = false) : ∀ d, uptoL m (T + d) = uptoL m T
  | 0 => rfl
  | d + 1 => by
    rw [show T + (d + 1) = (T + d) + 1 from by omega, uptoL_succ, uptoL_dead m T h d, lenL, h (T + d) (by omega)]
    simp
theorem uptoL_pre (m : Dfa) (T : Nat) : ∀ d, ∃ E, uptoL m (T + d) = uptoL m T ++ E
  | 0 => ⟨[], by simp⟩
  | d + 1 => by
    obtain ⟨E, hE⟩ := uptoL_pre m T d
    exact ⟨E ++ lenL m (T + d), by rw [show T + (d + 1) = (T + d) + 1 from by omega, uptoL_succ, hE, List.append_assoc]⟩
theorem wordsF_any {m : Dfa} (hm : m.wf) (most X : Nat) (hX : tEnd m most ≤ X) : wordsF m most = (uptoL m X).take most := by
  obtain ⟨t1, t2, t3⟩ := tEnd_spec m hm most
  obtain ⟨d, rfl⟩ : ∃ d, X = tEnd m most + d := ⟨X - tEnd m most, by omega⟩
  unfold wordsF
  rcases t2 with q | q
  · rw [uptoL_dead m _ (dead hm _ q) d]
  · obtain ⟨E, hE⟩ := uptoL_pre m (tEnd m most) d
    rw [hE, List.take_append_of_le_length q]

section
variable {m M : Dfa} {B : Nat → Nat → Prop} (S : Sim m M B) (hm : m.wf) (hM : M.wf)
include S hm hM
theorem Sim.can : ∀ n s t, B s t → (canR m n).getD s false = (canR M n).getD t false
  | 0, s, t, h => S.good s t h
  | n + 1, s, t, h => by
    obtain ⟨hs, ht⟩ := S.dom s t h
    rw [canR_succ m n s hs, canR_succ M n t ht, Bool.eq_iff_iff, List.any_eq_true, List.any_eq_true]
    have r1 := row_len hm hs
    have r2 := row_len hM ht
    rw [S.k] at r2
    have nx := S.next s t h
    constructor
    · rintro ⟨x, hx, hc⟩
      obtain ⟨i, hi, rfl⟩ := List.mem_iff_getElem.1 hx
      have e := Sim.can n _ _ (nx i (by omega))
      refine ⟨(M.next.getD t []).getD i 0, ?_, ?_⟩
      · exact mem_getD _ _ (by omega)
      · rw [← e, List.getD_eq_getElem?_getD (l := m.next.getD s []), List.getElem?_eq_getElem (by omega)]; exact hc
    · rintro ⟨x, hx, hc⟩
      obtain ⟨i, hi, rfl⟩ := List.mem_iff_getElem.1 hx
      have e := Sim.can n _ _ (nx i (by omega))
      refine ⟨(m.next.getD s []).getD i 0, ?_, ?_⟩
      · exact mem_getD _ _ (by omega)
      · rw [e, List.getD_eq_getElem?_getD (l := M.next.getD t []), List.getElem?_eq_getElem (by omega)]; exact hc
theorem Sim.spell : ∀ n s t r, B s t → spellL m (canR m) n s r = spellL M (canR M) n t r
  | 0, s, t, r, h => rfl
  | n + 1, s, t, r, h => by
    simp only [spellL, S.k]
    refine flatMap_same _ _ _ fun i hi => ?_
    have hb := S.next s t h i (List.mem_range.1 hi)
    rw [S.can hm hM n _ _ hb, Sim.spell n _ _ _ hb]
theorem Sim.lenL (n : Nat) : lenL m n = lenL M n := by
  unfold Go.Proofs.lenL
  rw [S.can hm hM n 0 0 S.start, S.spell hm hM n 0 0 [] S.start]
theorem Sim.words (most : Nat) : wordsF M most = wordsF m most := by
  have hu : ∀ X, uptoL M X = uptoL m X := fun X => by
    unfold uptoL
    exact flatMap_same _ _ _ fun n _ => (S.lenL hm hM n).symm
  rw [wordsF_any hM most (max (tEnd m most) (tEnd M most)) (by omega), wordsF_any hm most (max (tEnd m most) (tEnd M most)) (by omega), hu]
end
theorem words_least {m : Dfa} (hm : m.wf) (most : Nat) : wordsF (leastF m) most = wordsF m most := by
  obtain ⟨B, S⟩ := least_sim hm
  exact S.words hm (least_wf hm) most
end Go.Proofs

end

section
/-
  Plain laws: machines whose states are numbered by the first words that lead to them, and no two of which are alike: there is just one of each language.
-/
namespace Go.Proofs
open Go Go.AH
set_option maxRecDepth 10000
set_option maxHeartbeats 4000000

def nx (m : Dfa) (s i : Nat) : Nat := (m.next.getD s []).getD i 0
def Ok (k : Nat) (w : List Nat) : Prop := ∀ i ∈ w, i < k
theorem Ok.nil {k : Nat} : Ok k [] := fun _ h => by cases h
theorem Ok.app {k : Nat} {u v : List Nat} (hu : Ok k u) (hv : Ok k v) : Ok k (u ++ v) := fun i h => (List.mem_append.1 h).elim (hu i) (hv i)
theorem Ok.one {k i : Nat} (h : i < k) : Ok k [i] := fun j hj => by rw [List.mem_singleton.1 hj]; exact h
def accW (m : Dfa) (w : List Nat) : Bool := m.good.getD (goW m 0 w) false
theorem goW_snoc (m : Dfa) (s : Nat) (u : List Nat) (i : Nat) : goW m s (u ++ [i]) = nx m (goW m s u) i := by rw [goW_app]; rfl
theorem nx_lt {m : Dfa} (hm : m.wf) {s i : Nat} (hs : s < m.next.length) (hi : i < m.k) : nx m s i < m.next.length := row_lt hm hs hi

/-- States are numbered by first words. -/
def Bf (M : Dfa) : Prop := ∀ t, 0 < t → t < M.next.length → ∃ p i, p < t ∧ i < M.k ∧ nx M p i = t ∧ ∀ q j, j < M.k → (q < p ∨ q = p ∧ j < i) → nx M q j < t
structure Canon (M : Dfa) : Prop where
  wf : M.wf
  bf : Bf M
  apart : ∀ s t, s < M.next.length → t < M.next.length → (∀ w, Ok M.k w → M.good.getD (goW M s w) false = M.good.getD (goW M t w) false) → s = t

theorem Bf.reach {M : Dfa} (b : Bf M) : ∀ n t, t < n → t < M.next.length → ∃ w, Ok M.k w ∧ goW M 0 w = t
  | 0, t, h, _ => absurd h (by omega)
  | n + 1, t, h, ht => by
    by_cases h0 : t = 0
    · exact ⟨[], Ok.nil, h0.symm⟩
    · obtain ⟨p, i, hp, hi, e, _⟩ := b t (by omega) ht
      obtain ⟨w, hw, e1⟩ := Bf.reach b n p (by omega) (by omega)
      exact ⟨w ++ [i], hw.app (Ok.one hi), by rw [goW_snoc, e1, e]⟩
theorem Bf.word {M : Dfa} (b : Bf M) {t : Nat} (ht : t < M.next.length) : ∃ w, Ok M.k w ∧ goW M 0 w = t := b.reach (t + 1) t (by omega) ht

section
variable {M M' : Dfa}
/-- What is the same state in M is so in M'. -/
theorem Canon.to (c : Canon M) (c' : Canon M') (hk : M.k = M'.k) (hl : ∀ w, Ok M.k w → accW M w = accW M' w) {u v : List Nat} (hu : Ok M.k u) (hv : Ok M.k v) (e : goW M 0 u = goW M 0 v) : goW M' 0 u = goW M' 0 v := by
  have hn : 0 < M'.next.length := by have := c'.wf.n1; omega
  refine c'.apart _ _ (goW_lt c'.wf _ _ hn (by rw [← hk]; exact hu)) (goW_lt c'.wf _ _ hn (by rw [← hk]; exact hv)) fun w hw => ?_
  have hw' : Ok M.k w := by rw [hk]; exact hw
  have h1 := hl (u ++ w) (hu.app hw'); have h2 := hl (v ++ w) (hv.app hw')
  simp only [accW, goW_app] at h1 h2
  rw [← h1, ← h2, e]

/-- States of the same number are the same states. -/
def Same (M M' : Dfa) (t : Nat) : Prop := t < M.next.length → t < M'.next.length ∧ ∀ w, Ok M.k w → goW M 0 w = t → goW M' 0 w = t

theorem Canon.half (c : Canon M) (c' : Canon M') (hk : M.k = M'.k) (hl : ∀ w, Ok M.k w → accW M w = accW M' w) (t : Nat) (ih : ∀ s, s < t → Same M M' s ∧ Same M' M s) : Same M M' t := by
  intro ht
  have hn : 0 < M.next.length := by have := c.wf.n1; omega
  have hn' : 0 < M'.next.length := by have := c'.wf.n1; omega
  have key : ∃ u, Ok M.k u ∧ goW M 0 u = t ∧ goW M' 0 u = t ∧ t < M'.next.length := by
    by_cases h0 : t = 0
    · subst h0; exact ⟨[], Ok.nil, rfl, rfl, hn'⟩
    obtain ⟨p, i, hp, hi, e, hbef⟩ := c.bf t (by omega) ht
    obtain ⟨u, hu, eu⟩ := c.bf.word (show p < M.next.length by omega)
    obtain ⟨hpn, hpw⟩ := (ih p hp).1 (by omega)
    have eu' := hpw u hu eu
    have hui : Ok M.k (u ++ [i]) := hu.app (Ok.one hi)
    have et : goW M 0 (u ++ [i]) = t := by rw [goW_snoc, eu, e]
    have et' : goW M' 0 (u ++ [i]) = nx M' p i := by rw [goW_snoc, eu']
    have hlt' : nx M' p i < M'.next.length := nx_lt c'.wf hpn (by omega)
    rcases Nat.lt_trichotomy (nx M' p i) t with h | h | h
    · have := ((ih _ h).2 hlt').2 (u ++ [i]) (by rw [← hk]; exact hui) et'
      omega
    · exact ⟨u ++ [i], hui, et, et'.trans h, h ▸ hlt'⟩
    · exfalso
      obtain ⟨p', i', hp', hi', e', hbef'⟩ := c'.bf t (by omega) (by omega)
      have hlex : p' < p ∨ p' = p ∧ i' < i := by
        rcases Nat.lt_trichotomy p' p with q | q | q
        · exact .inl q
        · rcases Nat.lt_trichotomy i' i with r | r | r
          · exact .inr ⟨q, r⟩
          · subst q r; omega
          · have := hbef' p i (by omega) (.inr ⟨q.symm, r⟩); omega
        · have := hbef' p i (by omega) (.inl q); omega
      have hq := hbef p' i' (by omega) hlex
      obtain ⟨u', hu', eu'⟩ := c'.bf.word (show p' < M'.next.length by omega)
      obtain ⟨hpn2, hpw2⟩ := (ih p' hp').2 (by omega)
      have eu2 := hpw2 u' hu' eu'
      have hu2 : Ok M.k u' := by rw [hk]; exact hu'
      have hui2 : Ok M.k (u' ++ [i']) := hu2.app (Ok.one (by omega))
      have h1 : goW M 0 (u' ++ [i']) = nx M p' i' := by rw [goW_snoc, eu2]
      have h2 := ((ih _ hq).1 (by omega)).2 (u' ++ [i']) hui2 h1
      have h3 : goW M' 0 (u' ++ [i']) = t := by rw [goW_snoc, eu', e']
      omega
  obtain ⟨u, hu, e1, e2, e3⟩ := key
  exact ⟨e3, fun w hw ew => by rw [← e2]; exact c.to c' hk hl hw hu (ew.trans e1.symm)⟩

theorem Canon.all (c : Canon M) (c' : Canon M') (hk : M.k = M'.k) (hl : ∀ w, Ok M.k w → accW M w = accW M' w) : ∀ n t, t < n → Same M M' t ∧ Same M' M t
  | 0, t, h => absurd h (by omega)
  | n + 1, t, h => by
    have ih := Canon.all c c' hk hl n
    exact ⟨c.half c' hk hl t fun s hs => ih s (by omega), c'.half c hk.symm (fun w hw => (hl w (by rw [hk]; exact hw)).symm) t fun s hs => (ih s (by omega)).symm⟩

/-- There is one of each language. -/
theorem Canon.unique (c : Canon M) (c' : Canon M') (hk : M.k = M'.k) (hl : ∀ w, Ok M.k w → accW M w = accW M' w) : M = M' := by
  have hall := fun t => c.all c' hk hl (t + 1) t (by omega)
  have hlen : M.next.length = M'.next.length := by
    rcases Nat.lt_trichotomy M.next.length M'.next.length with q | q | q
    · have := ((hall M.next.length).2 q).1; omega
    · exact q
    · have := ((hall M'.next.length).1 q).1; omega
  have hgo : ∀ s, s < M.next.length → ∃ u, Ok M.k u ∧ goW M 0 u = s ∧ goW M' 0 u = s := fun s hs => by
    obtain ⟨u, hu, e⟩ := c.bf.word hs
    exact ⟨u, hu, e, ((hall s).1 hs).2 u hu e⟩
  have hnx : ∀ s i, s < M.next.length → i < M.k → nx M s i = nx M' s i := fun s i hs hi => by
    obtain ⟨u, hu, e1, e2⟩ := hgo s hs
    have h1 : goW M 0 (u ++ [i]) = nx M s i := by rw [goW_snoc, e1]
    have h2 := ((hall _).1 (nx_lt c.wf hs hi)).2 (u ++ [i]) (hu.app (Ok.one hi)) h1
    rw [goW_snoc, e2] at h2
    exact h2.symm
  have hnext : M.next = M'.next := by
    refine List.ext_getElem hlen fun s h1 h2 => ?_
    have r1 := c.wf.rl _ (List.getElem_mem h1); have r2 := c'.wf.rl _ (List.getElem_mem h2)
    refine List.ext_getElem (by omega) fun i h3 h4 => ?_
    have := hnx s i h1 (by omega)
    simpa [nx, h1, h2, h3, h4] using this
  have hgood : M.good = M'.good := by
    refine List.ext_getElem (by rw [c.wf.gl, c'.wf.gl, hlen]) fun s h1 h2 => ?_
    obtain ⟨u, hu, e1, e2⟩ := hgo s (by rw [← c.wf.gl]; exact h1)
    have := hl u hu
    simp only [accW, e1, e2] at this
    simpa [h1, h2] using this
  cases M; cases M'; simp_all
end

/-! ### What reached answers is numbered so -/
section
variable {α : Type} [DecidableEq α]
/-- The entry of a row. -/
def ent (rows : List (List Nat)) (q j : Nat) : Nat := (rows.getD q []).getD j 0
theorem ent_app_lt (rows : List (List Nat)) (r : List Nat) (q j : Nat) (h : q < rows.length) : ent (rows ++ [r]) q j = ent rows q j := by
  simp [ent, List.getD_eq_getElem?_getD, List.getElem?_append_left h]
theorem ent_app_eq (rows : List (List Nat)) (r : List Nat) (j : Nat) : ent (rows ++ [r]) rows.length j = r.getD j 0 := by
  simp [ent, List.getD_eq_getElem?_getD]
/-- In the midst of a row: the first i letters of the state a. -/
def Mid (k : Nat) (rows : List (List Nat)) (row : List Nat) (N : Nat) : Prop := ∀ t, 0 < t → t < N → ∃ p i, p < t ∧ (p < rows.length ∧ i < k ∨ p = rows.length ∧ i < row.length) ∧ ent (rows ++ [row]) p i = t ∧ ∀ q j, j < k → (q < p ∨ q = p ∧ j < i) → ent (rows ++ [row]) q j < t

theorem Mid.snoc {k : Nat} {rows : List (List Nat)} {row : List Nat} {N y : Nat} (m : Mid k rows row N) (hr : row.length < k) : Mid k rows (row ++ [y]) N := fun t h0 ht => by
  obtain ⟨p, i, h1, h2, h3, h4⟩ := m t h0 ht
  have e : ∀ q j, (q < rows.length ∨ q = rows.length ∧ j < row.length) → ent (rows ++ [row ++ [y]]) q j = ent (rows ++ [row]) q j := fun q j hq => by
    rcases hq with hq | ⟨rfl, hj⟩
    · rw [ent_app_lt _ _ _ _ hq, ent_app_lt _ _ _ _ hq]
    · rw [ent_app_eq, ent_app_eq]; simp [List.getD_eq_getElem?_getD, List.getElem?_append_left hj]
  refine ⟨p, i, h1, ?_, ?_, fun q j hj hq => ?_⟩
  · rcases h2 with q | ⟨q, r⟩
    · exact .inl q
    · exact .inr ⟨q, by simp; omega⟩
  · rw [e p i (by rcases h2 with q | ⟨q, r⟩ <;> omega)]; exact h3
  · rw [e q j (by rcases h2 with r | ⟨r, r2⟩ <;> rcases hq with s | ⟨s, s2⟩ <;> omega)]; exact h4 q j hj hq

theorem rRow_mid (ν : α → Nat → α) (most : Int) (x : α) (keys : List α) (rows : List (List Nat)) (K : Nat) (hlen : rows.length < keys.length) (hro : ∀ r ∈ rows, r.length = K ∧ ∀ y ∈ r, y < keys.length) (h0 : Mid K rows [] keys.length) :
    ∀ (k : Nat), k ≤ K → ∀ (st : List α × List Nat), rRow ν most x keys k = some st → Mid K rows st.2 st.1.length
  | 0, _, st, e => by simp [rRow] at e; subst e; exact h0
  | k + 1, hk, st, e => by
    rw [rRow_succ] at e
    cases h : rRow ν most x keys k with
    | none => rw [h] at e; simp [rStep] at e
    | some st' =>
      have ih := rRow_mid ν most x keys rows K hlen hro h0 k (by omega) st' h
      obtain ⟨hl1, hl2, hl3⟩ := rRow_len ν most x keys k st' h
      have hlt := rRow_lt ν most x keys k st' h
      rw [h] at e
      simp only [rStep, Option.bind_some] at e
      split at e
      · simp only [Option.some.injEq] at e; subst e
        exact ih.snoc (by omega)
      · split at e
        · cases e
        · simp only [Option.some.injEq] at e; subst e
          intro t ht0 ht
          simp only [List.length_append, List.length_singleton] at ht
          by_cases hN : t < st'.1.length
          · exact (ih.snoc (y := st'.1.length) (by omega)) t ht0 hN
          · obtain rfl : t = st'.1.length := by omega
            refine ⟨rows.length, k, by omega, .inr ⟨rfl, by simp; omega⟩, ?_, fun q j hj hq => ?_⟩
            · rw [ent_app_eq]
              simp [List.getD_eq_getElem?_getD, List.getElem?_append_right (show st'.2.length ≤ k by omega), hl1]
            · rcases hq with hq | ⟨rfl, hj2⟩
              · rw [ent_app_lt _ _ _ _ hq]
                have hr := hro _ (List.getElem_mem hq)
                have : ent rows q j = rows[q][j]'(by omega) := by simp [ent, hq, hr.1, hj]
                rw [this]
                have := hr.2 _ (List.getElem_mem (show j < rows[q].length by omega))
                omega
              · rw [ent_app_eq]
                have hj3 : j < st'.2.length := by omega
                have : (st'.2 ++ [st'.1.length]).getD j 0 = st'.2[j] := by simp [List.getD_eq_getElem?_getD, List.getElem?_append_left hj3, hj3]
                rw [this]
                exact hlt _ (List.getElem_mem hj3)
theorem rIter_mid (ν : α → Nat → α) (most : Int) (k : Nat) (start : α) : ∀ (a : Nat) (st : List α × List (List Nat)), (∀ b st, b < a → rIter ν most k start b = some st → b < st.1.length) → rIter ν most k start a = some st → Mid k st.2 [] st.1.length
  | 0, st, _, e => by
    simp [rIter] at e; subst e
    intro t h0 ht
    simp only [List.length_singleton] at ht; omega
  | a + 1, st, hF, e => by
    simp only [rIter] at e
    cases h : rIter ν most k start a with
    | none => rw [h] at e; cases e
    | some st' =>
      have ih := rIter_mid ν most k start a st' (fun b st hb => hF b st (by omega)) h
      have h1 := rIter_rows ν most k start a st' (fun b st hb => hF b st (by omega)) h
      have h2 := hF a st' (by omega) h
      have hro := rIter_rowsok ν most k start a st' h
      rw [h] at e
      simp only [Option.bind_some, List.getElem?_eq_getElem h2] at e
      cases hr : rRow ν most st'.1[a] st'.1 k with
      | none => rw [hr] at e; cases e
      | some r =>
        rw [hr] at e
        simp only [Option.map_some, Option.some.injEq] at e
        subst e
        have := rRow_mid ν most st'.1[a] st'.1 st'.2 k (by omega) hro ih k (Nat.le_refl _) r hr
        have hrl := (rRow_len ν most st'.1[a] st'.1 k r hr).1
        intro t ht0 ht
        obtain ⟨p, i, q1, q2, q3, q4⟩ := this t ht0 ht
        have e : ∀ q j, q < (st'.2 ++ [r.2]).length → ent ((st'.2 ++ [r.2]) ++ [[]]) q j = ent (st'.2 ++ [r.2]) q j := fun q j hq => ent_app_lt _ _ _ _ hq
        have hp : p < (st'.2 ++ [r.2]).length := by simp; rcases q2 with s | ⟨s, _⟩ <;> omega
        refine ⟨p, i, q1, .inl ⟨hp, by rcases q2 with s | ⟨_, s⟩ <;> omega⟩, by rw [e p i hp]; exact q3, fun q j hj hq => ?_⟩
        rw [e q j (by rcases hq with s | ⟨s, _⟩ <;> omega)]
        exact q4 q j hj hq
/-- What reached answers, as a machine, is numbered by first words. -/
theorem rIter_bf (ν : α → Nat → α) (most : Int) (k : Nat) (start : α) (F : Nat) (st : List α × List (List Nat)) (h1 : ∀ b st, b < F → rIter ν most k start b = some st → b < st.1.length) (h2 : st.1.length = F) (e : rIter ν most k start F = some st) (good : List Bool) : Bf ⟨k, st.2, good⟩ := by
  have hm := rIter_mid ν most k start F st h1 e
  have hr := rIter_rows ν most k start F st h1 e
  intro t h0 ht
  simp only at ht
  obtain ⟨p, i, q1, q2, q3, q4⟩ := hm t h0 (by omega)
  have hp : p < st.2.length := by omega
  have hi : i < k := by
    rcases q2 with s | ⟨_, s⟩
    · exact s.2
    · simp at s
  refine ⟨p, i, q1, hi, ?_, fun q j hj hq => ?_⟩
  · rw [ent_app_lt _ _ _ _ hp] at q3; exact q3
  · have := q4 q j hj hq
    rw [ent_app_lt _ _ _ _ (by rcases hq with s | ⟨s, _⟩ <;> omega)] at this
    exact this
end

/-! ### The least machine is one of these -/
theorem refI_apart (m : Dfa) (hm : m.wf) : ∀ (j s t : Nat), s < m.next.length → t < m.next.length → (∀ w, Ok m.k w → m.good.getD (goW m s w) false = m.good.getD (goW m t w) false) → (refI m j).1.getD s 0 = (refI m j).1.getD t 0
  | 0, s, t, hs, ht, h => (clsF_eq _ _ s t hs ht).2 (h [] Ok.nil)
  | j + 1, s, t, hs, ht, h => by
    refine (clsF_eq (sgnF m (refI m j).1) _ s t hs ht).2 ?_
    have h1 := refI_apart m hm j s t hs ht h
    have h2 : ∀ i, i < m.k → (refI m j).1.getD ((m.next.getD s []).getD i 0) 0 = (refI m j).1.getD ((m.next.getD t []).getD i 0) 0 := fun i hi =>
      refI_apart m hm j _ _ (row_lt hm hs hi) (row_lt hm ht hi) fun w hw => h (i :: w) fun q hq => by
        rcases List.mem_cons.1 hq with rfl | hq
        · exact hi
        · exact hw q hq
    simp only [sgnF, List.cons.injEq]
    refine ⟨by omega, List.map_congr_left fun i _ => ?_⟩
    by_cases hi : i < m.k
    · simp only [hi, if_true]; rw [h2 i hi]
    · simp only [hi, if_false]

theorem Sim.go {m M : Dfa} {B : Nat → Nat → Prop} (S : Sim m M B) : ∀ (w : List Nat) (s t : Nat), Ok m.k w → B s t → B (goW m s w) (goW M t w)
  | [], _, _, _, h => h
  | i :: w, s, t, hw, h => S.go w _ _ (fun j hj => hw j (by simp [hj])) (S.next s t h i (hw i (by simp)))
theorem Sim.acc {m M : Dfa} {B : Nat → Nat → Prop} (S : Sim m M B) (w : List Nat) (hw : Ok m.k w) : accW m w = accW M w := S.good _ _ (S.go w 0 0 hw S.start)

theorem least_acc {m : Dfa} (hm : m.wf) (w : List Nat) (hw : Ok m.k w) : accW (leastF m) w = accW m w := by
  obtain ⟨B, S⟩ := least_sim hm
  exact (S.acc w hw).symm
end Go.Proofs

end

section
/-
  Plain laws: the least machine is the one of its language whose states are numbered by first words, no two alike.
-/
namespace Go.Proofs
open Go Go.AH
set_option maxRecDepth 10000
set_option maxHeartbeats 4000000

theorem LstOut.simk {m M : Dfa} (hm : m.wf) (l : LstOut m M) : ∃ (J : Nat) (keys : List Nat), Sim m M (fun s j => s < m.next.length ∧ keys[j]? = some ((refI m J).1.getD s 0)) ∧ keys.Nodup ∧ Bf M := by
  obtain ⟨J, F, keys, rows, a1, a2, a3, a4, a5, rfl⟩ := l
  obtain ⟨v1, v2⟩ := rIter_val _ _ _ _ F _ a5 a3
  have hrl := rIter_rows _ _ _ _ F _ a5 a3
  have hnd := (rIter_inv _ (-1) (fun _ => True) m.k (fun _ _ _ _ => trivial) _ trivial F _ a3).1
  have hbf := rIter_bf _ _ _ _ F _ a5 a4 a3 (keys.map fun x => m.good.getD ((someF m (refI m J).1 (refI m J).2 m.next.length).getD x 0) false)
  simp only at v1 v2 hrl hnd
  have h0 := (List.getElem?_eq_some_iff.1 v1).1
  have hn1 := hm.n1
  have some_ok : ∀ s, s < m.next.length → (someF m (refI m J).1 (refI m J).2 m.next.length).getD ((refI m J).1.getD s 0) 0 < m.next.length ∧ (refI m J).1.getD ((someF m (refI m J).1 (refI m J).2 m.next.length).getD ((refI m J).1.getD s 0) 0) 0 = (refI m J).1.getD s 0 :=
    fun s hs => someF_get m _ _ _ (fun s hs => refI_lt m J s hs) _ ⟨s, hs, rfl⟩
  refine ⟨J, keys, ⟨rfl, ⟨by omega, v1⟩, fun s t h => ⟨h.1, ?_⟩, fun s t h => ?_, fun s t h i hi => ?_⟩, hnd, hbf⟩
  · have := (List.getElem?_eq_some_iff.1 h.2).1
    simp only; omega
  · obtain ⟨hs, ht⟩ := h
    obtain ⟨p1, p2⟩ := some_ok s hs
    simp only [List.getD_eq_getElem?_getD, List.getElem?_map, ht, Option.map_some, Option.getD_some]
    have := refI_fine m J s _ hs p1 p2.symm
    simpa only [List.getD_eq_getElem?_getD] using this
  · obtain ⟨hs, ht⟩ := h
    have htl := (List.getElem?_eq_some_iff.1 ht).1
    obtain ⟨x, w1, w2⟩ := v2 t (by omega) i hi
    rw [ht] at w1
    cases w1
    obtain ⟨p1, p2⟩ := some_ok s hs
    refine ⟨row_lt hm hs hi, ?_⟩
    rw [w2, stepC]
    rw [refI_stable m hm J a2 _ s p1 hs p2 i hi]

theorem least_canon {m : Dfa} (hm : m.wf) : Canon (leastF m) := by
  obtain ⟨J, keys, S, hnd, hbf⟩ := (lst_ok hm).simk hm
  have hw := least_wf hm
  refine ⟨hw, hbf, fun s t hs ht h => ?_⟩
  obtain ⟨u, hu, eu⟩ := hbf.word hs
  obtain ⟨v, hv, ev⟩ := hbf.word ht
  have hk := least_k hm
  have su := S.go u 0 0 (by rw [← hk]; exact hu) S.start
  have sv := S.go v 0 0 (by rw [← hk]; exact hv) S.start
  rw [eu] at su
  rw [ev] at sv
  have e : (refI m J).1.getD (goW m 0 u) 0 = (refI m J).1.getD (goW m 0 v) 0 := refI_apart m hm J _ _ su.1 sv.1 fun w hw => by
    have h1 := S.good _ _ (S.go w _ _ hw su)
    have h2 := S.good _ _ (S.go w _ _ hw sv)
    rw [h1, h2]
    exact h w (by rw [hk]; exact hw)
  have h1 := su.2; have h2 := sv.2
  rw [e] at h1
  have hsl := (List.getElem?_eq_some_iff.1 h1).1
  have htl := (List.getElem?_eq_some_iff.1 h2).1
  rw [List.getElem?_eq_getElem hsl] at h1
  rw [List.getElem?_eq_getElem htl] at h2
  exact (List.getElem_inj hnd).1 (Option.some.inj (h1.trans h2.symm))

/-- Machines of one language have one least machine. -/
theorem least_lang {m m' : Dfa} (hm : m.wf) (hm' : m'.wf) (hk : m.k = m'.k) (hl : ∀ w, Ok m.k w → accW m w = accW m' w) : leastF m = leastF m' :=
  (least_canon hm).unique (least_canon hm') (by rw [least_k hm, least_k hm', hk]) fun w hw => by
    rw [least_k hm] at hw
    rw [least_acc hm w hw, least_acc hm' w (by rw [← hk]; exact hw), hl w hw]
/-- What is such a machine of m's language is the least one. -/
theorem Canon.least {m M : Dfa} (c : Canon M) (hm : m.wf) (hk : M.k = m.k) (hl : ∀ w, Ok m.k w → accW M w = accW m w) : M = leastF m :=
  c.unique (least_canon hm) (by rw [least_k hm, hk]) fun w hw => by rw [hk] at hw; rw [least_acc hm w hw, hl w hw]
/-- The least machine of the least machine is itself. -/
theorem least_least {m : Dfa} (hm : m.wf) : leastF (leastF m) = leastF m := ((least_canon hm).least (least_wf hm) rfl fun _ _ => rfl).symm
end Go.Proofs

end
