/-
  Texts: WdLst WdLst2 WdC WdW WdD.
-/
import Derived.Test.YtobhipohnjmnhaaV1
set_option linter.unusedSimpArgs false
set_option linter.unusedVariables false
set_option linter.unusedSectionVars false
section
/-
  Walks: the least machine.
-/
namespace Go.Proofs
open Go Go.AH
set_option maxRecDepth 10000
set_option maxHeartbeats 4000000
set_option linter.unusedSectionVars false

/-- A state's sign under classes c. -/
def sgnF (m : Dfa) (c : List Nat) (s : Nat) : List Int := (c.getD s 0 : Int) :: (List.range 4).map fun i => if i < m.k then ((c.getD ((m.next.getD s []).getD i 0) 0 : Nat) : Int) else 0
theorem sgn_len (m : Dfa) (c : List Nat) (s : Nat) : (sgnF m c s).length = 5 := by simp [sgnF]
def cls0 (m : Dfa) : List Nat := clsF (fun s => m.good.getD s false) m.next.length
def many0 (m : Dfa) : Nat := (ddF (fun s => m.good.getD s false) m.next.length).length
def clsN (m : Dfa) (c : List Nat) : List Nat := clsF (sgnF m c) m.next.length
def manyN (m : Dfa) (c : List Nat) : Nat := (ddF (sgnF m c) m.next.length).length
/-- Classes after so many rounds, and how many there are. -/
def refI (m : Dfa) : Nat → List Nat × Nat
  | 0 => (cls0 m, many0 m)
  | j + 1 => (clsN m (refI m j).1, manyN m (refI m j).1)
theorem refI_len (m : Dfa) (j : Nat) : (refI m j).1.length = m.next.length := by cases j <;> simp [refI, cls0, clsN, clsF_len]

section
variable {α β : Type} [DecidableEq α] [DecidableEq β]
theorem mem_ddF (κ : Nat → α) (x : α) : ∀ n, x ∈ ddF κ n ↔ ∃ s, s < n ∧ κ s = x
  | 0 => by simp [ddF]
  | n + 1 => by
    have ih := mem_ddF κ x n
    simp only [ddF]
    constructor
    · intro h
      split at h
      · obtain ⟨s, h1, h2⟩ := ih.1 h; exact ⟨s, by omega, h2⟩
      · rcases List.mem_append.1 h with h | h
        · obtain ⟨s, h1, h2⟩ := ih.1 h; exact ⟨s, by omega, h2⟩
        · exact ⟨n, by omega, (List.mem_singleton.1 h).symm⟩
    · rintro ⟨s, h1, h2⟩
      by_cases hs : s = n
      · subst hs
        split
        · next hm => rw [← h2]; exact hm
        · rw [← h2]; simp
      · have := ih.2 ⟨s, by omega, h2⟩
        split
        · exact this
        · simp [this]
theorem ddF_nodup (κ : Nat → α) : ∀ n, (ddF κ n).Nodup
  | 0 => by simp [ddF]
  | n + 1 => by
    have ih := ddF_nodup κ n
    simp only [ddF]
    split
    · exact ih
    · next hm =>
      rw [List.nodup_append]
      refine ⟨ih, by simp, fun a ha b hb => ?_⟩
      rw [List.mem_singleton.1 hb]
      rintro rfl
      exact hm ha
/-- Finer keys are no fewer. -/
theorem ddF_fine (κ : Nat → α) (κ' : Nat → β) : ∀ n, (∀ s t, s < n → t < n → κ' s = κ' t → κ s = κ t) → (ddF κ n).length ≤ (ddF κ' n).length
  | 0, _ => by simp [ddF]
  | n + 1, h => by
    have ih := ddF_fine κ κ' n fun s t hs ht => h s t (by omega) (by omega)
    simp only [ddF]
    by_cases h1 : κ n ∈ ddF κ n
    · rw [if_pos h1]
      split
      · exact ih
      · rw [List.length_append]; omega
    · rw [if_neg h1]
      have h2 : ¬ κ' n ∈ ddF κ' n := by
        intro hm
        obtain ⟨s, hs, e⟩ := (mem_ddF κ' _ n).1 hm
        exact h1 ((mem_ddF κ _ n).2 ⟨s, hs, h s n (by omega) (by omega) e⟩)
      rw [if_neg h2]
      simp; omega
theorem ixF_lt {D : List α} {x : α} (h : x ∈ D) : ixF D x < D.length := List.idxOf_lt_length_of_mem h
theorem ixF_get {D : List α} {x : α} (h : x ∈ D) : D[ixF D x]'(ixF_lt h) = x := List.getElem_idxOf _
theorem ixF_inj {D : List α} {x y : α} (hx : x ∈ D) (hy : y ∈ D) (e : ixF D x = ixF D y) : x = y := by
  have h1 := ixF_get hx
  have h2 := ixF_get hy
  rw [← h1, ← h2]
  simp only [e]
theorem ddF_pre (κ : Nat → α) (n : Nat) : ∀ m, n ≤ m → ∃ E, ddF κ m = ddF κ n ++ E
  | 0, h => ⟨[], by have : n = 0 := by omega
                    subst this; simp⟩
  | m + 1, h => by
    by_cases hn : n = m + 1
    · subst hn; exact ⟨[], by simp⟩
    · obtain ⟨E, hE⟩ := ddF_pre κ n m (by omega)
      simp only [ddF]
      split
      · exact ⟨E, hE⟩
      · exact ⟨E ++ [κ m], by rw [hE]; simp⟩
/-- The classes, each by its key's number. -/
theorem clsF_get (κ : Nat → α) : ∀ n s, s < n → (clsF κ n).getD s 0 = ixF (ddF κ n) (κ s)
  | 0, s, h => by omega
  | n + 1, s, h => by
    have hl := clsF_len κ n
    simp only [clsF]
    by_cases hs : s = n
    · subst hs
      rw [List.getD_eq_getElem?_getD, List.getElem?_append_right (by omega)]
      simp [hl]
    · have h1 : s < n := by omega
      rw [List.getD_eq_getElem?_getD, List.getElem?_append_left (by omega), ← List.getD_eq_getElem?_getD, clsF_get κ n s h1]
      obtain ⟨E, hE⟩ := ddF_pre κ n (n + 1) (by omega)
      rw [hE]
      exact (idx_app_mem ((mem_ddF κ _ n).2 ⟨s, h1, rfl⟩)).symm
theorem clsF_eq (κ : Nat → α) (n s t : Nat) (hs : s < n) (ht : t < n) : (clsF κ n).getD s 0 = (clsF κ n).getD t 0 ↔ κ s = κ t := by
  rw [clsF_get κ n s hs, clsF_get κ n t ht]
  exact ⟨fun e => ixF_inj ((mem_ddF κ _ n).2 ⟨s, hs, rfl⟩) ((mem_ddF κ _ n).2 ⟨t, ht, rfl⟩) e, fun e => by rw [e]⟩
theorem clsF_lt (κ : Nat → α) (n s : Nat) (hs : s < n) : (clsF κ n).getD s 0 < (ddF κ n).length := by
  rw [clsF_get κ n s hs]; exact ixF_lt ((mem_ddF κ _ n).2 ⟨s, hs, rfl⟩)
end

theorem refI_lt (m : Dfa) (j s : Nat) (hs : s < m.next.length) : (refI m j).1.getD s 0 < (refI m j).2 := by
  cases j with
  | zero => exact clsF_lt _ _ _ hs
  | succ j => exact clsF_lt _ _ _ hs
theorem refI_le (m : Dfa) (j : Nat) : (refI m j).2 ≤ m.next.length := by
  cases j with
  | zero => exact ddF_le _ _
  | succ j => exact ddF_le _ _
theorem refI_mono (m : Dfa) (j : Nat) : (refI m j).2 ≤ (refI m (j + 1)).2 := by
  have key : ∀ s t, sgnF m (refI m j).1 s = sgnF m (refI m j).1 t → (refI m j).1.getD s 0 = (refI m j).1.getD t 0 := by
    intro s t e
    simp only [sgnF, List.cons.injEq] at e
    omega
  cases j with
  | zero => exact ddF_fine _ _ _ fun s t hs ht e => (clsF_eq _ _ _ _ hs ht).1 (key s t e)
  | succ j => exact ddF_fine _ _ _ fun s t hs ht e => (clsF_eq _ _ _ _ hs ht).1 (key s t e)

/-! ### closures -/
theorem w_least1 (m : Dfa) (hm : m.wf) (H : AHeap) (b1 : Nat) (e1 : ∀ off, cellsAt H b1 off = some (([.int .i64 (m.k : Int), nrowsA m.next, boolsA m.good] : List AV).drop off)) (s : Nat) (hs : s < m.next.length) :
    ACallV Try.prog (.fn (.func 114) [] [.ptr b1 0]) [.int .i64 (s : Int)] H fun r h' => r = .bool (m.good.getD s false) ∧ h' = H := by
  rw [ACallV_func]
  refine acalls_of Try.func114 rfl Try.call114 (by kernel_rfl) (by show _ ≤ (9 : Nat); simp) ?_
  have hg : s < m.good.length := by rw [hm.gl]; exact hs
  simp [e1, boolsA, hg]
  exact finA_self ⟨rfl, rfl⟩

def sgnP (m : Dfa) (c : List Nat) (s j : Nat) : List Int := (c.getD s 0 : Int) :: (List.range 4).map fun i => if i < j then ((c.getD ((m.next.getD s []).getD i 0) 0 : Nat) : Int) else 0
theorem sgnP_succ (m : Dfa) (c : List Nat) (s j : Nat) (hj : j < 4) : sgnP m c s (j + 1) = (sgnP m c s j).set (j + 1) ((c.getD ((m.next.getD s []).getD j 0) 0 : Nat) : Int) := by
  have : j = 0 ∨ j = 1 ∨ j = 2 ∨ j = 3 := by omega
  rcases this with rfl | rfl | rfl | rfl <;> simp [sgnP, List.range_succ]
theorem sgnP_len (m : Dfa) (c : List Nat) (s j : Nat) : (sgnP m c s j).length = 5 := by simp [sgnP]
theorem w_least2 (m : Dfa) (hm : m.wf) (H : AHeap) (b1 b2 : Nat) (c : List Nat) (hc : c.length = m.next.length) (e1 : cellsAt H b1 0 = some [natsA c]) (e2 : ∀ off, cellsAt H b2 off = some (([.int .i64 (m.k : Int), nrowsA m.next, boolsA m.good] : List AV).drop off)) (s : Nat) (hs : s < m.next.length) :
    ACallV Try.prog (.fn (.func 116) [] [.ptr b1 0, .ptr b2 0]) [.int .i64 (s : Int)] H fun r h' => r = signA (sgnF m c s) ∧ h' = H := by
  rw [ACallV_func]
  refine acalls_of Try.func116 rfl Try.call116 (by kernel_rfl) (by show _ ≤ (33 : Nat); simp) ?_
  have hg : s < c.length := by rw [hc]; exact hs
  have hrow : m.next[s].length = m.k := hm.rl _ (List.getElem_mem hs)
  simp
  intro b4 hb4
  have n4 := ne_fresh e1 hb4
  have n4' := ne_fresh (e2 0) hb4
  simp [e1, n4, natsA, hg]
  intro b5 hb5
  simp at hb5
  have n5 := ne_fresh e1 hb5.2.2
  have n5' := ne_fresh (e2 0) hb5.2.2
  simp [e1, e2, n4, n4', n5, n5', hb5, nrowsA, hs, natsA]
  refine awp_loop_g (γ := Nat) (fun j t h => (j ≤ m.k) ∧ t 1 = .ptr b1 0 ∧ t 4 = .ptr b4 0 ∧ t 5 = .ptr b5 0 ∧ t 17 = .sl m.k ((m.next[s]'hs).map fun x : Nat => AV.int .i64 (x : Int)) ∧ t 18 = .int .i64 m.k ∧ t 19 = .int .i64 j ∧ h = (H.upd b4 (.cells [.int .i64 0, .int .i64 0, .int .i64 0, .int .i64 0, .int .i64 0])).upd b5 (.cells ((sgnP m c s j).map (.int .i64)))) (fun j => m.k - j) (0) (turnA_self (by simp [sgnP, hrow, hg, List.range_succ])) ?_
  rintro j t h ⟨hj, h1, h4, h5, h17, h18, h19, rfl⟩
  by_cases hlt : j < m.k
  · have hjr : j < m.next[s].length := by omega
    have hx : m.next[s][j] < m.next.length := hm.lt _ (List.getElem_mem hs) _ (List.getElem_mem hjr)
    have hx2 : m.next[s][j] < c.length := by omega
    have hw : IntKind.i64.wrap ((j : Int) + 1) = (j : Int) + 1 := wrap_i64 (by have := hm.k4; omega) (by have := hm.k4; omega)
    have hsucc := sgnP_succ m c s j (by have := hm.k4; omega)
    have hgx : (c.getD ((m.next.getD s []).getD j 0) 0) = c[m.next[s][j]] := by simp [hs, hjr, hx2]
    rw [hgx] at hsucc
    have hl := sgnP_len m c s j
    have h14 : 1 + j < 5 := by have := hm.k4; omega
    have hj4 : (j : Int) < 4 := by have := hm.k4; omega
    have hj4n : j < 4 := by omega
    simp [h1, h4, h5, h17, h18, h19, hlt, e1, n4, n4', n5, n5', hb5, natsA, hjr, hx2, hl, h14, hj4, hj4n, splice_one, Nat.add_comm 1 j]
    exact ⟨by omega, turnA_self ⟨j + 1, by omega, by omega, by simp [h1, h4, h5, h17, h18, h19, hw, hsucc, List.map_set, hl, show j + 1 < 5 from by omega]⟩⟩
  · obtain rfl : j = m.k := by omega
    have hE : sgnP m c s m.k = sgnF m c s := rfl
    rw [hE]
    have hl := sgn_len m c s
    generalize sgnF m c s = q at hl ⊢
    match q, hl with
    | [x0, x1, x2, x3, x4], _ =>
    simp [h1, h4, h5, h17, h18, h19, hb5, splice_all]
    exact finA_same H (((Drop.refl _).new hb4).new hb5.2.2) ⟨rfl, rfl⟩

/-! ### the least machine -/
/-- A state of each class. -/
def someF (m : Dfa) (c : List Nat) (many s : Nat) : List Nat := (List.range s).foldl (fun sm s => sm.set (c.getD s 0) s) (List.replicate many 0)
theorem someF_succ (m : Dfa) (c : List Nat) (many s : Nat) : someF m c many (s + 1) = (someF m c many s).set (c.getD s 0) s := by simp [someF, List.range_succ]
theorem someF_len (m : Dfa) (c : List Nat) (many s : Nat) : (someF m c many s).length = many := by
  induction s with
  | zero => simp [someF]
  | succ s ih => rw [someF_succ]; simp [ih]
theorem someF_lt (m : Dfa) (c : List Nat) (many : Nat) : ∀ s n, s ≤ n → 1 ≤ n → ∀ x ∈ someF m c many s, x < n
  | 0, n, _, h1, x, hx => by simp [someF] at hx; omega
  | s + 1, n, h, h1, x, hx => by
    rw [someF_succ] at hx
    rcases List.mem_or_eq_of_mem_set hx with q | q
    · exact someF_lt m c many s n (by omega) h1 x q
    · omega
def stepC (m : Dfa) (c sm : List Nat) (x i : Nat) : Nat := c.getD ((m.next.getD (sm.getD x 0) []).getD i 0) 0

theorem w_least3 (m : Dfa) (hm : m.wf) (H : AHeap) (b1 b2 b3 b7 : Nat) (c sm : List Nat) (hc : c.length = m.next.length) (hsm : ∀ x ∈ sm, x < m.next.length) (e1 : cellsAt H b1 0 = some [natsA c]) (e2 : ∀ off, cellsAt H b2 off = some (([.int .i64 (m.k : Int), nrowsA m.next, boolsA m.good] : List AV).drop off)) (e3 : cellsAt H b3 0 = some [.osl b7 0 sm.length 1]) (e7 : ∀ off, cellsAt H b7 off = some ((sm.map fun x : Nat => AV.int .i64 (x : Int)).drop off)) (x : Nat) (hx : x < sm.length) (i : Nat) (hi : i < m.k) :
    ACallV Try.prog (.fn (.func 118) [] [.ptr b1 0, .ptr b2 0, .ptr b3 0]) [.int .i64 (x : Int), .int .i64 (i : Int)] H fun r h' => r = .int .i64 (stepC m c sm x i : Int) ∧ h' = H := by
  rw [ACallV_func]
  refine acalls_of Try.func118 rfl Try.call118 (by kernel_rfl) (by show _ ≤ (22 : Nat); simp) ?_
  have h1 := hsm _ (List.getElem_mem hx)
  have hrow : m.next[sm[x]].length = m.k := hm.rl _ (List.getElem_mem h1)
  have hir : i < m.next[sm[x]].length := by omega
  have h2 := hm.lt _ (List.getElem_mem h1) _ (List.getElem_mem hir)
  have h3 : m.next[sm[x]][i] < c.length := by omega
  simp
  refine awp_draw_text (by kernel_rfl) [] [] (by kernel_rfl) (by kernel_rfl) (by simp) ?_
  simp [e1, e2, e3, e7, nrowsA, natsA, hx, h1, hir, h3]
  refine finA_self ⟨?_, rfl⟩
  simp [stepC, hx, h1, hir, h3]

/-! bounded searches end -/
section
variable {α : Type} [DecidableEq α]
theorem rStep_neg (ν : α → Nat → α) (x : α) (st : List α × List Nat) (i : Nat) : ∃ r, rStep ν (-1) x (some st) i = some r := by
  simp only [rStep, Option.bind_some]
  split
  · exact ⟨_, rfl⟩
  · rw [if_neg (by omega)]; exact ⟨_, rfl⟩
theorem rRow_neg (ν : α → Nat → α) (x : α) (keys : List α) : ∀ k, ∃ r, rRow ν (-1) x keys k = some r
  | 0 => ⟨(keys, []), by simp [rRow]⟩
  | k + 1 => by
    obtain ⟨r, hr⟩ := rRow_neg ν x keys k
    rw [rRow_succ, hr]
    exact rStep_neg ν x r k
theorem rIter_neg (ν : α → Nat → α) (k : Nat) (start : α) : ∀ a, ∃ r, rIter ν (-1) k start a = some r
  | 0 => ⟨_, rfl⟩
  | a + 1 => by
    obtain ⟨r, hr⟩ := rIter_neg ν k start a
    simp only [rIter, hr, Option.bind_some]
    split
    · next x hx =>
      obtain ⟨q, hq⟩ := rRow_neg ν x r.1 k
      rw [hq]; exact ⟨_, rfl⟩
    · exact ⟨_, rfl⟩
theorem rRow_inv (ν : α → Nat → α) (most : Int) (Inv : α → Prop) (x : α) (hx : Inv x) (keys : List α) (hk : keys.Nodup ∧ ∀ y ∈ keys, Inv y) : ∀ (k : Nat) (st : List α × List Nat), (∀ x i, Inv x → i < k → Inv (ν x i)) → rRow ν most x keys k = some st → st.1.Nodup ∧ ∀ y ∈ st.1, Inv y
  | 0, st, _, e => by simp [rRow] at e; subst e; exact hk
  | k + 1, st, hν, e => by
    rw [rRow_succ] at e
    cases h : rRow ν most x keys k with
    | none => rw [h] at e; simp [rStep] at e
    | some st' =>
      obtain ⟨h1, h2⟩ := rRow_inv ν most Inv x hx keys hk k st' (fun x i hx hi => hν x i hx (by omega)) h
      rw [h] at e
      simp only [rStep, Option.bind_some] at e
      split at e
      · simp only [Option.some.injEq] at e; subst e; exact ⟨h1, h2⟩
      · split at e
        · cases e
        · next hm _ =>
          simp only [Option.some.injEq] at e; subst e
          simp only
          refine ⟨?_, fun y hy => ?_⟩
          · rw [List.nodup_append]
            refine ⟨h1, by simp, fun a ha b hb => ?_⟩
            rw [List.mem_singleton.1 hb]
            rintro rfl; exact hm ha
          · rcases List.mem_append.1 hy with q | q
            · exact h2 y q
            · rw [List.mem_singleton.1 q]; exact hν x k hx (by omega)
theorem rIter_inv (ν : α → Nat → α) (most : Int) (Inv : α → Prop) (k : Nat) (hν : ∀ x i, Inv x → i < k → Inv (ν x i)) (start : α) (hs : Inv start) : ∀ (a : Nat) (st : List α × List (List Nat)), rIter ν most k start a = some st → st.1.Nodup ∧ ∀ y ∈ st.1, Inv y
  | 0, st, e => by simp [rIter] at e; subst e; simp [hs]
  | a + 1, st, e => by
    simp only [rIter] at e
    cases h : rIter ν most k start a with
    | none => rw [h] at e; cases e
    | some st' =>
      have ih := rIter_inv ν most Inv k hν start hs a st' h
      rw [h] at e
      simp only [Option.bind_some] at e
      split at e
      · next x hx =>
        cases hr : rRow ν most x st'.1 k with
        | none => rw [hr] at e; cases e
        | some r =>
          rw [hr] at e
          simp only [Option.map_some, Option.some.injEq] at e
          subst e
          exact rRow_inv ν most Inv x (ih.2 x (List.mem_of_getElem? hx)) st'.1 ih k r hν hr
      · simp only [Option.some.injEq] at e; subst e; exact ih
/-- Where no more than N keys can be met, the search ends. -/
theorem rIter_end (ν : α → Nat → α) (most : Int) (k : Nat) (start : α) (N : Nat) (hN : ∀ a st, rIter ν most k start a = some st → st.1.length ≤ N) :
    ∃ F, F ≤ N + 1 ∧ 1 ≤ F ∧ (∀ a st, a < F → rIter ν most k start a = some st → a < st.1.length) ∧ ∀ st, rIter ν most k start F = some st → st.1.length = F := by
  -- the first round at which all keys have been met
  have key : ∀ n, (∃ F, F ≤ n ∧ (∀ a st, a < F → rIter ν most k start a = some st → a < st.1.length) ∧ ∀ st, rIter ν most k start F = some st → st.1.length ≤ F) ∨ ∀ a st, a ≤ n → rIter ν most k start a = some st → a < st.1.length := by
    intro n
    induction n with
    | zero =>
      by_cases h : ∀ st, rIter ν most k start 0 = some st → st.1.length ≤ 0
      · exact .inl ⟨0, Nat.le_refl _, fun a st ha => by omega, h⟩
      · refine .inr fun a st ha e => ?_
        obtain rfl : a = 0 := by omega
        have := rIter_len ν most k start 0 st e
        omega
    | succ n ih =>
      rcases ih with ⟨F, h1, h2⟩ | ih
      · exact .inl ⟨F, by omega, h2⟩
      · by_cases h : ∀ st, rIter ν most k start (n + 1) = some st → st.1.length ≤ n + 1
        · exact .inl ⟨n + 1, Nat.le_refl _, fun a st ha e => ih a st (by omega) e, h⟩
        · refine .inr fun a st ha e => ?_
          by_cases ha' : a = n + 1
          · subst ha'
            exact Classical.byContradiction fun hc => h fun st' e' => by
              rw [e] at e'; cases e'; omega
          · exact ih a st (by omega) e
  have key2 : ∃ F, F ≤ N + 1 ∧ (∀ a st, a < F → rIter ν most k start a = some st → a < st.1.length) ∧ ∀ st, rIter ν most k start F = some st → st.1.length ≤ F := by
    rcases key (N + 1) with ⟨F, h1, h2⟩ | h
    · exact ⟨F, h1, h2⟩
    · refine ⟨N + 1, Nat.le_refl _, fun a st ha e => h a st (by omega) e, fun st e => ?_⟩
      have h1 := h (N + 1) st (Nat.le_refl _) e
      have h2 := hN _ _ e
      omega
  obtain ⟨F, h1, h2, h3⟩ := key2
  have hF1 : 1 ≤ F := by
    rcases Nat.eq_zero_or_pos F with rfl | h
    · have := h3 ([start], []) rfl; simp at this
    · exact h
  refine ⟨F, h1, hF1, h2, fun st e => ?_⟩
  have h4 := h3 st e
  -- no fewer keys than rounds
  obtain ⟨a, rfl⟩ : ∃ a, F = a + 1 := ⟨F - 1, by omega⟩
  simp only [rIter] at e
  cases h : rIter ν most k start a with
  | none => rw [h] at e; cases e
  | some st' =>
    have h5 := h2 a st' (by omega) h
    rw [h] at e
    simp only [Option.bind_some, List.getElem?_eq_getElem h5] at e
    cases hr : rRow ν most st'.1[a] st'.1 k with
    | none => rw [hr] at e; cases e
    | some r =>
      rw [hr] at e
      simp only [Option.map_some, Option.some.injEq] at e
      subst e
      have := rRow_len ν most _ st'.1 k r hr
      simp only at h4 ⊢
      omega
end
theorem nodup_lt : ∀ (N : Nat) (l : List Nat), l.Nodup → (∀ x ∈ l, x < N) → l.length ≤ N
  | 0, l, _, h => by
    cases l with
    | nil => simp
    | cons x l => exact absurd (h x (by simp)) (by omega)
  | N + 1, l, hn, h => by
    have h1 := nodup_lt N (l.erase N) (hn.erase N) fun x hx => by
      have h2 := h x (List.mem_of_mem_erase hx)
      have h3 : x ≠ N := fun e => by
        subst e
        exact (List.Nodup.not_mem_erase hn) hx
      omega
    have := List.length_erase_le (a := N) (l := l)
    have h4 : l.length ≤ (l.erase N).length + 1 := by
      by_cases hm : N ∈ l
      · rw [List.length_erase_of_mem hm]; omega
      · rw [List.erase_of_not_mem hm]; omega
    omega
end Go.Proofs

end

section
/-
  Walk: the least machine, as a whole.
-/
namespace Go.Proofs
open Go Go.AH
set_option maxRecDepth 10000
set_option maxHeartbeats 4000000
set_option linter.unusedSectionVars false

/-- What least makes of a machine: classes that no more letter parts; those that are reached. -/
def LstOut (m M : Dfa) : Prop := ∃ J F keys rows, (∀ j, j < J → (refI m (j + 1)).2 ≠ (refI m j).2) ∧ (refI m (J + 1)).2 = (refI m J).2 ∧
  rIter (stepC m (refI m J).1 (someF m (refI m J).1 (refI m J).2 m.next.length)) (-1) m.k ((refI m J).1.getD 0 0) F = some (keys, rows) ∧ keys.length = F ∧
  (∀ a st, a < F → rIter (stepC m (refI m J).1 (someF m (refI m J).1 (refI m J).2 m.next.length)) (-1) m.k ((refI m J).1.getD 0 0) a = some st → a < st.1.length) ∧
  M = ⟨m.k, rows, keys.map fun x => m.good.getD ((someF m (refI m J).1 (refI m J).2 m.next.length).getD x 0) false⟩
theorem LstOut.unique {m M M' : Dfa} (a : LstOut m M) (b : LstOut m M') : M = M' := by
  obtain ⟨J, F, keys, rows, a1, a2, a3, a4, a5, rfl⟩ := a
  obtain ⟨J', F', keys', rows', b1, b2, b3, b4, b5, rfl⟩ := b
  obtain rfl : J = J' := by
    rcases Nat.lt_trichotomy J J' with h | h | h
    · exact absurd a2 (b1 J h)
    · exact h
    · exact absurd b2 (a1 J' h)
  obtain rfl : F = F' := by
    rcases Nat.lt_trichotomy F F' with h | h | h
    · have := b5 F _ h a3; simp only at this; omega
    · exact h
    · have := a5 F' _ h b3; simp only at this; omega
  rw [a3] at b3
  cases b3
  rfl
open Classical in
noncomputable def leastF (m : Dfa) : Dfa := if h : ∃ M, LstOut m M then Classical.choose h else m
theorem leastF_eq {m M : Dfa} (a : LstOut m M) : leastF m = M := by
  have h : ∃ M, LstOut m M := ⟨M, a⟩
  unfold leastF
  rw [dif_pos h]
  exact (Classical.choose_spec h).unique a

theorem w_least (m : Dfa) (hm : m.wf) (H : AHeap) : ACalls Try.prog 67 [m.av] H fun r h' => r = (leastF m).av ∧ LstOut m (leastF m) ∧ h' = H := by
  have goalM : ∀ (r : AV) (M : Dfa), r = M.av → LstOut m M → r = (leastF m).av ∧ LstOut m (leastF m) := fun r M e l => by rw [leastF_eq l]; exact ⟨e, l⟩
  refine acalls_of Try.func67 rfl Try.call67 (by kernel_rfl) (by show _ ≤ (87 : Nat); simp) ?_
  have hn1 := hm.n1
  have hnm := hm.nmax
  simp [Dfa.av]
  intro b1 hb1
  simp
  intro b2 hb2
  simp at hb2
  simp [hb2, nrowsA]
  have c1 := w_classedB m.next.length hm.n1 hm.nmax (.fn (.func 114) [] [.ptr b1 0]) (fun s => m.good.getD s false) ((H.upd b1 (.cells [.int .i64 m.k, .sl m.next.length (m.next.map natsA), boolsA m.good])).upd b2 (.cells [.int .i64 0, .nilsl, .nilsl]))
    (fun s hs => w_least1 m hm _ b1 (by intro off; simp [hb2, nrowsA]) s hs)
  refine ACalls.mono c1 ?_
  rintro r h' ⟨rfl, rfl⟩
  simp
  intro b3 hb3
  simp at hb3
  simp [hb3, hb2]
  refine awp_loop_g (γ := Nat) (fun j t h => (∀ i, i < j → (refI m (i + 1)).2 ≠ (refI m i).2) ∧ t 1 = .ptr b1 0 ∧ t 2 = .ptr b2 0 ∧ t 3 = .ptr b3 0 ∧ t 4 = .int .i64 (refI m j).2 ∧ h = ((H.upd b1 (.cells [.int .i64 m.k, .sl m.next.length (m.next.map natsA), boolsA m.good])).upd b2 (.cells [.int .i64 0, .nilsl, .nilsl])).upd b3 (.cells [natsA (refI m j).1])) (fun j => m.next.length - (refI m j).2) (0) (turnA_self (by simp [refI, cls0, many0, hb3, hb2])) ?_
  rintro j t h ⟨hj, h1, h2, h3, h4, rfl⟩
  simp [h1, h2, h3, h4, hb3, hb2]
  have c2 := w_classedS m.next.length hm.n1 hm.nmax (.fn (.func 116) [] [.ptr b3 0, .ptr b1 0]) (sgnF m (refI m j).1) (fun s _ => sgn_len _ _ _) (((H.upd b1 (.cells [.int .i64 m.k, .sl m.next.length (m.next.map natsA), boolsA m.good])).upd b2 (.cells [.int .i64 0, .nilsl, .nilsl])).upd b3 (.cells [natsA (refI m j).1]))
    (fun s hs => w_least2 m hm _ b3 b1 _ (refI_len m j) (by simp) (by intro off; simp [hb2, hb3, nrowsA]) s hs)
  refine ACalls.mono c2 ?_
  rintro r h' ⟨rfl, rfl⟩
  have hnext : (refI m (j + 1)) = (clsF (sgnF m (refI m j).1) m.next.length, (ddF (sgnF m (refI m j).1) m.next.length).length) := rfl
  have hmono := refI_mono m j
  have hle1 := refI_le m (j + 1)
  by_cases heq : (refI m (j + 1)).2 = (refI m j).2
  · have heq' : ((ddF (sgnF m (refI m j).1) m.next.length).length : Int) = (refI m j).2 := congrArg _ heq
    simp [h1, h2, h3, h4, heq', hb3, hb2]
    refine ⟨by omega, fun b7' hb7 => ?_⟩
    simp at hb7
    simp [h1, h2, h3, h4, hb3, hb2, hb7]
    intro b7 hb7c
    simp at hb7c
    simp [h1, h2, h3, h4, hb3, hb2, hb7, hb7c]
    obtain ⟨c, hc⟩ : ∃ c, c = (refI m j).1 := ⟨_, rfl⟩
    obtain ⟨many, hmany⟩ : ∃ many, many = (refI m j).2 := ⟨_, rfl⟩
    have hcl : c.length = m.next.length := by rw [hc]; exact refI_len m j
    have hclt : ∀ s, s < m.next.length → c.getD s 0 < many := fun s hs => by rw [hc, hmany]; exact refI_lt m j s hs
    rw [← hc, ← hmany]
    simp [h1, h2, h3, h4, hb3, hb2, hb7, hb7c, natsA, hcl]
    refine awp_loop_g (γ := Nat) (fun s t h => (s ≤ m.next.length) ∧ t 1 = .ptr b1 0 ∧ t 2 = .ptr b2 0 ∧ t 3 = .ptr b3 0 ∧ t 7 = .ptr b7 0 ∧ t 39 = .sl m.next.length (c.map fun x : Nat => AV.int .i64 (x : Int)) ∧ t 40 = .int .i64 m.next.length ∧ t 41 = .int .i64 s ∧ h = ((((H.upd b1 (.cells [.int .i64 m.k, .sl m.next.length (m.next.map natsA), boolsA m.good])).upd b2 (.cells [.int .i64 0, .nilsl, .nilsl])).upd b3 (.cells [.sl m.next.length (c.map fun x : Nat => AV.int .i64 (x : Int))])).upd b7' (.cells ((someF m c many s).map fun x : Nat => AV.int .i64 (x : Int)))).upd b7 (.cells [.osl b7' 0 many 1])) (fun s => m.next.length - s) (0) (turnA_self (by simp [h1, h2, h3, h4, someF])) ?_
    rintro s t h ⟨hs, h1, h2, h3, h7, h39, h40, h41, rfl⟩
    have hsml := someF_len m c many s
    by_cases hlt : s < m.next.length
    · have hsc : s < c.length := by omega
      have hcs := hclt s hlt
      have hcs' : c.getD s 0 = c[s] := by simp [hsc]
      rw [hcs'] at hcs
      have hsucc := someF_succ m c many s
      rw [hcs'] at hsucc
      have hw : IntKind.i64.wrap ((s : Int) + 1) = (s : Int) + 1 := wrap_i64 (by omega) (by omega)
      simp [h1, h2, h3, h7, h39, h40, h41, hlt, hsc, hb3, hb2, hb7, hb7c, hcs, hsml]
      exact ⟨by omega, turnA_self ⟨s + 1, by omega, by omega, by simp [h1, h2, h3, h7, h39, h40, h41, hw, hsucc, List.map_set, hsml, hcs]⟩⟩
    · obtain rfl : s = m.next.length := by omega
      obtain ⟨sm, hsm⟩ : ∃ sm, sm = someF m c many m.next.length := ⟨_, rfl⟩
      have hsmlt : ∀ x ∈ sm, x < m.next.length := by rw [hsm]; exact someF_lt m c many _ _ (Nat.le_refl _) hn1
      rw [← hsm] at hsml
      have h0 : 0 < c.length := by omega
      have h0' : 0 < m.next.length := by omega
      have hc0 : c.getD 0 0 = c[0] := by simp [h0]
      have hInv0 : c[0] < many := by rw [← hc0]; exact hclt 0 h0'
      have hInvS : ∀ x i, x < many → i < m.k → stepC m c sm x i < many := by
        intro x i hx hi
        have h1 : x < sm.length := by omega
        have h2 := hsmlt _ (List.getElem_mem h1)
        have h3 : i < m.next[sm[x]].length := by rw [hm.rl _ (List.getElem_mem h2)]; exact hi
        have h4 := hm.lt _ (List.getElem_mem h2) _ (List.getElem_mem h3)
        have : stepC m c sm x i = c.getD m.next[sm[x]][i] 0 := by simp [stepC, h1, h2, h3]
        rw [this]
        exact hclt _ h4
      obtain ⟨F, F1, F2, F3, F4⟩ := rIter_end (stepC m c sm) (-1) m.k c[0] many (fun a st e => by
        obtain ⟨q1, q2⟩ := rIter_inv (stepC m c sm) (-1) (· < many) m.k hInvS c[0] hInv0 a st e
        exact nodup_lt many st.1 q1 q2)
      have hml : many ≤ m.next.length := by rw [hmany]; exact refI_le m j
      obtain ⟨⟨keys, rows⟩, hkr⟩ := rIter_neg (stepC m c sm) m.k c[0] F
      have hkl := F4 _ hkr
      simp only at hkl
      have hkeys := rIter_inv (stepC m c sm) (-1) (· < many) m.k hInvS c[0] hInv0 F _ hkr
      simp [h1, h2, h3, h7, h39, h40, h41, ← hsm]
      refine awp_draw_text (by kernel_rfl) [] [] (by kernel_rfl) (by kernel_rfl) (by simp) ?_
      simp [h1, h2, h3, h7, h39, h40, h41, hb3, hb2, hb7, hb7c, h0, h0', hcl]
      have c3 := w_reachedI c[0] m.k hm.k4 hm.k1 (-1) (.fn (.func 118) [] [.ptr b3 0, .ptr b1 0, .ptr b7 0]) (stepC m c sm) (· < many) hInv0 hInvS (((((H.upd b1 (.cells [.int .i64 m.k, .sl m.next.length (m.next.map natsA), boolsA m.good])).upd b2 (.cells [.int .i64 0, .nilsl, .nilsl])).upd b3 (.cells [.sl m.next.length (c.map fun x : Nat => AV.int .i64 (x : Int))])).upd b7' (.cells (sm.map fun x : Nat => AV.int .i64 (x : Int)))).upd b7 (.cells [.osl b7' 0 many 1]))
        (fun x i hx hi => w_least3 m hm _ b3 b1 b7 b7' c sm hcl hsmlt (by simp [hb7, hb7c, natsA, hcl]) (by intro off; simp [hb2, hb3, hb7, hb7c, nrowsA]) (by simp [hsml]) (by intro off; simp [hb7c]) x (by omega) i hi) F (by omega) F2 F3 F4
      rw [hkr] at c3
      refine ACalls.mono c3 ?_
      rintro r h' ⟨rfl, rfl⟩
      simp [h1, h2, h3, h7, h39, h40, h41, rchA, hb3, hb2, hb7, hb7c, nrowsA]
      intro b13 hb13
      simp at hb13
      obtain ⟨HB, hHB⟩ : ∃ HB, HB = (((((H.upd b1 (.cells [.int .i64 m.k, .sl m.next.length (m.next.map natsA), boolsA m.good])).upd b2 (.cells [.int .i64 0, .nilsl, .nilsl])).upd b3 (.cells [.sl m.next.length (c.map fun x : Nat => AV.int .i64 (x : Int))])).upd b7' (.cells (sm.map fun x : Nat => AV.int .i64 (x : Int)))).upd b7 (.cells [.osl b7' 0 many 1])) := ⟨_, rfl⟩
      have hB1 : ∀ off, cellsAt HB b1 off = some (([.int .i64 (m.k : Int), .sl m.next.length (m.next.map natsA), boolsA m.good] : List AV).drop off) := by intro off; rw [hHB]; simp [hb2, hb3, hb7, hb7c]
      have hB2 : cellsAt HB b2 0 = some [.int .i64 0, .nilsl, .nilsl] := by rw [hHB]; simp [hb2, hb3, hb7, hb7c]
      have hB7 : cellsAt HB b7 0 = some [.osl b7' 0 many 1] := by rw [hHB]; simp [hb2, hb3, hb7, hb7c]
      have hB7' : ∀ off, cellsAt HB b7' off = some ((sm.map fun x : Nat => AV.int .i64 (x : Int)).drop off) := by intro off; rw [hHB]; simp [hb2, hb3, hb7, hb7c]
      have hBd : Drop HB H := by
        rw [hHB]
        exact ((((((Drop.refl H).new hb1).new hb2.2.2).new hb3.2.2.2.2).new hb7.2.2.2.2.2.2).new hb7c.2.2.2.2.2.2.2.2)
      have hF13 : Fresh HB b13 := by rw [hHB]; simp [hb13]
      rw [← hHB]
      have m1 := ne_fresh (hB1 0) hF13; have m2 := ne_fresh hB2 hF13; have m7 := ne_fresh hB7 hF13; have m7' := ne_fresh (hB7' 0) hF13
      clear c1 c2 c3
      simp [h1, h2, h3, h7, h39, h40, h41, hB1, natsA, hkl]
      refine awp_loop_g (γ := Nat × Option Nat) (fun g t h => (g.1 ≤ F) ∧ ((g.2 = none → g.1 = 0) ∧ ∀ b, g.2 = some b → Fresh HB b ∧ ¬ b = b13 ∧ ¬ b13 = b) ∧ t 1 = .ptr b1 0 ∧ t 2 = .ptr b2 0 ∧ t 7 = .ptr b7 0 ∧ t 13 = .ptr b13 0 ∧ t 66 = .sl F (keys.map fun x : Nat => AV.int .i64 (x : Int)) ∧ t 67 = .int .i64 F ∧ t 68 = .int .i64 g.1 ∧ h = (HB.upd b13 (.cells [.int .i64 m.k, .sl rows.length (rows.map natsA), ownV g.2 g.1 1])).updO g.2 (((keys.take g.1).map fun x => m.good.getD (sm.getD x 0) false).map .bool)) (fun g => F - g.1) ((0, none)) (turnA_self (by simp [h1, h2, h3, h7, h39, h40, h41, hkl])) ?_
      rintro g t h ⟨hi, ho, h1, h2, h7, h13, h66, h67, h68, rfl⟩
      obtain ⟨i, o⟩ := g
      simp only at h1 h2 h7 h13 h66 h67 h68 hi ho
      by_cases hlti : i < F
      · have hik : i < keys.length := by omega
        have hx := hkeys.2 _ (List.getElem_mem hik)
        have hxs : keys[i] < sm.length := by omega
        have hxm := hsmlt _ (List.getElem_mem hxs)
        have hxg : sm[keys[i]] < m.good.length := by rw [hm.gl]; exact hxm
        have hval : m.good.getD (sm.getD keys[i] 0) false = m.good[sm[keys[i]]] := by simp [hxs, hxg]
        have htake : keys.take (i + 1) = keys.take i ++ [keys[i]] := by rw [List.take_append_getElem]
        have hw : IntKind.i64.wrap ((i : Int) + 1) = (i : Int) + 1 := wrap_i64 (by omega) (by omega)
        simp [h1, h2, h7, h13, h66, h67, h68, hlti, hik]
        refine awp_draw_text (by kernel_rfl) [] [] (by kernel_rfl) (by kernel_rfl) (by simp) ?_
        rcases o with _ | b
        · obtain rfl : i = 0 := ho.1 rfl
          simp [h1, h2, h7, h13, h66, h67, h68, hB1, hB7, hB7', m1, m2, m7, m7', hxs, boolsA, hxg, hx]
          intro b16 hb16
          simp at hb16
          simp [h1, h2, h7, h13, h66, h67, h68, hB1, hB7, hB7', m1, m2, m7, m7', hb16]
          intro b17 hb17
          simp at hb17
          simp [h1, h2, h7, h13, h66, h67, h68, hB1, hB7, hB7', m1, m2, m7, m7', hb16, hb17, hw]
          refine turnA_to ((HB.upd b13 (.cells [.int .i64 m.k, .sl rows.length (rows.map natsA), .osl b17 0 1 1])).upd b17 (.cells (((keys.take 1).map fun x => m.good.getD (sm.getD x 0) false).map .bool))) ?_ ⟨1, by omega, by omega, some b17, by simp [h1, h2, h7, h13, h66, h67, h68, hb17]⟩
          simp only [Nat.zero_add] at htake
          rw [htake]
          simp [hval, hxs, hxg]
          refine Drop.both (Drop.new (Drop.refl _) ?_)
          simp [hb16]
        · have ho1 := ho.2 b rfl
          have n1 := ne_fresh (hB1 0) ho1.1; have n2 := ne_fresh hB2 ho1.1; have n7 := ne_fresh hB7 ho1.1; have n7' := ne_fresh (hB7' 0) ho1.1
          have hlen : min i keys.length = i := by omega
          simp [h1, h2, h7, h13, h66, h67, h68, hB1, hB7, hB7', m1, m2, m7, m7', hxs, boolsA, hxg, hx, ho1, n1, n2, n7, n7']
          intro b16 hb16
          simp at hb16
          simp [h1, h2, h7, h13, h66, h67, h68, hB1, hB7, hB7', m1, m2, m7, m7', hb16, ho1, hlen]
          refine ⟨by omega, ?_⟩
          intro b17 hb17
          simp at hb17
          simp [h1, h2, h7, h13, h66, h67, h68, hB1, hB7, hB7', m1, m2, m7, m7', hb16, hb17, hw, ho1]
          refine turnA_to ((HB.upd b13 (.cells [.int .i64 m.k, .sl rows.length (rows.map natsA), .osl b17 0 (i + 1) 1])).upd b17 (.cells (((keys.take (i + 1)).map fun x => m.good.getD (sm.getD x 0) false).map .bool))) ?_ ⟨i + 1, by omega, by omega, some b17, by simp [h1, h2, h7, h13, h66, h67, h68, hb17]⟩
          rw [show (((keys.take (i + 1)).map fun x => m.good.getD (sm.getD x 0) false).map AV.bool) = ((keys.take i).map fun x => m.good.getD (sm.getD x 0) false).map AV.bool ++ [AV.bool (m.good.getD (sm.getD keys[i] 0) false)] from by rw [htake, List.map_append, List.map_append]; rfl]
          simp [hxs, hxg]
          refine Drop.both (Drop.new (Drop.refl _) ?_)
          simp [hb16]
      · obtain rfl : i = F := by omega
        rcases o with _ | b
        · have := ho.1 rfl; omega
        have ho1 := ho.2 b rfl
        have n1 := ne_fresh (hB1 0) ho1.1; have n2 := ne_fresh hB2 ho1.1
        simp [h1, h2, h7, h13, h66, h67, h68, hB1, hB2, m1, m2, ho1, n1, n2]
        have hbd := (((hBd.new (c := .cells [.int .i64 m.k, .sl rows.length (rows.map natsA), .osl b 0 i 1]) (hBd.fresh hF13)).new (b := b) (c := .cells (List.take i (List.map (AV.bool ∘ fun x => m.good[sm[x]?.getD 0]?.getD false) keys))) (hBd.fresh ho1.1)).new (b := b2) (c := .cells [.int .i64 m.k, .sl rows.length (rows.map natsA), .osl b 0 i 1]) hb2.2.2)
        refine finA_to 2 H hbd ?_
        have hr := goalM ((Dfa.mk m.k rows (keys.map fun x => m.good.getD (sm.getD x 0) false)).av) _ rfl ⟨j, i, keys, rows, hj, heq, by rw [← hc, ← hmany, ← hsm, hc0]; exact hkr, hkl, by rw [← hc, ← hmany, ← hsm, hc0]; exact F3, by rw [← hc, ← hmany, ← hsm]⟩
        refine ⟨?_, hr.2, rfl⟩
        rw [← hr.1]
        simp [Dfa.av, nrowsA, boolsA, hBd.fresh ho1.1, ho1, n2, hkl, List.take_of_length_le]
  · have heq' : ¬ ((ddF (sgnF m (refI m j).1) m.next.length).length : Int) = (refI m j).2 := fun e => heq (Int.ofNat.inj e)
    simp [h1, h2, h3, h4, heq', hb3, hb2]
    exact turnA_self ⟨j + 1, by rw [hnext] at hmono hle1 heq ⊢; simp only at hmono hle1 heq ⊢; omega, fun i hi => by
      by_cases e : i = j
      · subst e; exact heq
      · exact hj i (by omega), by simp [h1, h2, h3, h4, hnext]⟩
end Go.Proofs

end

section
/-
  Walks: small functions round the least machine; the words of its states.
-/
namespace Go.Proofs
open Go Go.AH
set_option maxRecDepth 10000
set_option maxHeartbeats 4000000
set_option linter.unusedSectionVars false

theorem refI_stops (m : Dfa) : ∀ (d j : Nat), m.next.length - (refI m j).2 ≤ d → (∀ i, i < j → (refI m (i + 1)).2 ≠ (refI m i).2) → ∃ J, (∀ i, i < J → (refI m (i + 1)).2 ≠ (refI m i).2) ∧ (refI m (J + 1)).2 = (refI m J).2
  | d, j, hd, hj => by
    by_cases h : (refI m (j + 1)).2 = (refI m j).2
    · exact ⟨j, hj, h⟩
    · have h1 := refI_mono m j
      have h2 := refI_le m (j + 1)
      cases d with
      | zero => omega
      | succ d =>
        refine refI_stops m d (j + 1) (by omega) fun i hi => ?_
        by_cases e : i = j
        · subst e; exact h
        · exact hj i (by omega)
theorem lst_ok {m : Dfa} (hm : m.wf) : LstOut m (leastF m) := by
  obtain ⟨J, hj, heq⟩ := refI_stops m _ 0 (Nat.le_refl _) (fun i hi => by omega)
  have hInvS : ∀ x i, x < (refI m J).2 → i < m.k → stepC m (refI m J).1 (someF m (refI m J).1 (refI m J).2 m.next.length) x i < (refI m J).2 := by
    intro x i hx hi
    have h1 : x < (someF m (refI m J).1 (refI m J).2 m.next.length).length := by rw [someF_len]; exact hx
    have h2 := someF_lt m (refI m J).1 (refI m J).2 _ _ (Nat.le_refl _) hm.n1 _ (List.getElem_mem h1)
    have h3 : i < m.next[(someF m (refI m J).1 (refI m J).2 m.next.length)[x]].length := by rw [hm.rl _ (List.getElem_mem h2)]; exact hi
    have h4 := hm.lt _ (List.getElem_mem h2) _ (List.getElem_mem h3)
    have : stepC m (refI m J).1 (someF m (refI m J).1 (refI m J).2 m.next.length) x i = (refI m J).1.getD m.next[(someF m (refI m J).1 (refI m J).2 m.next.length)[x]][i] 0 := by simp [stepC, h1, h2, h3]
    rw [this]
    exact refI_lt m J _ h4
  have hInv0 : (refI m J).1.getD 0 0 < (refI m J).2 := refI_lt m J 0 (by have := hm.n1; omega)
  obtain ⟨F, F1, F2, F3, F4⟩ := rIter_end (stepC m (refI m J).1 (someF m (refI m J).1 (refI m J).2 m.next.length)) (-1) m.k ((refI m J).1.getD 0 0) (refI m J).2 (fun a st e => by
    obtain ⟨q1, q2⟩ := rIter_inv _ (-1) (· < (refI m J).2) m.k hInvS _ hInv0 a st e
    exact nodup_lt _ st.1 q1 q2)
  obtain ⟨⟨keys, rows⟩, hkr⟩ := rIter_neg (stepC m (refI m J).1 (someF m (refI m J).1 (refI m J).2 m.next.length)) m.k ((refI m J).1.getD 0 0) F
  have : LstOut m _ := ⟨J, F, keys, rows, hj, heq, hkr, F4 _ hkr, F3, rfl⟩
  rw [leastF_eq this]; exact this
theorem w_leastP {m : Dfa} (hm : m.wf) : Pure Try.prog 67 [m.av] (leastF m).av := fun H => (w_least m hm H).mono fun r h' ⟨e1, _, e2⟩ => ⟨e1, e2⟩

/-- What the rows are bounded by. -/
theorem rRow_lt {α : Type} [DecidableEq α] (ν : α → Nat → α) (most : Int) (x : α) (keys : List α) : ∀ (k : Nat) (st : List α × List Nat), rRow ν most x keys k = some st → ∀ y ∈ st.2, y < st.1.length
  | 0, st, e => by simp [rRow] at e; subst e; simp
  | k + 1, st, e => by
    rw [rRow_succ] at e
    cases h : rRow ν most x keys k with
    | none => rw [h] at e; simp [rStep] at e
    | some st' =>
      have ih := rRow_lt ν most x keys k st' h
      rw [h] at e
      simp only [rStep, Option.bind_some] at e
      split at e
      · next hm =>
        simp only [Option.some.injEq] at e; subst e
        intro y hy
        rcases List.mem_append.1 hy with q | q
        · exact ih y q
        · rw [List.mem_singleton.1 q]; exact ixF_lt hm
      · split at e
        · cases e
        · simp only [Option.some.injEq] at e; subst e
          intro y hy
          rcases List.mem_append.1 hy with q | q
          · have := ih y q; simp; omega
          · rw [List.mem_singleton.1 q]; simp
theorem rIter_rowsok {α : Type} [DecidableEq α] (ν : α → Nat → α) (most : Int) (k : Nat) (start : α) : ∀ (a : Nat) (st : List α × List (List Nat)), rIter ν most k start a = some st → ∀ r ∈ st.2, r.length = k ∧ ∀ y ∈ r, y < st.1.length
  | 0, st, e => by simp [rIter] at e; subst e; simp
  | a + 1, st, e => by
    simp only [rIter] at e
    cases h : rIter ν most k start a with
    | none => rw [h] at e; cases e
    | some st' =>
      have ih := rIter_rowsok ν most k start a st' h
      rw [h] at e
      simp only [Option.bind_some] at e
      split at e
      · next x hx =>
        cases hr : rRow ν most x st'.1 k with
        | none => rw [hr] at e; cases e
        | some q =>
          rw [hr] at e
          simp only [Option.map_some, Option.some.injEq] at e
          subst e
          have l1 := rRow_len ν most x st'.1 k q hr
          have l2 := rRow_lt ν most x st'.1 k q hr
          intro r hr'
          rcases List.mem_append.1 hr' with q1 | q1
          · have := ih r q1
            exact ⟨this.1, fun y hy => by have := this.2 y hy; simp only; omega⟩
          · rw [List.mem_singleton.1 q1]; exact ⟨l1.1, l2⟩
      · simp only [Option.some.injEq] at e; subst e; exact ih
theorem LstOut.wf {m M : Dfa} (hm : m.wf) (l : LstOut m M) : M.wf ∧ M.k = m.k ∧ M.next.length ≤ m.next.length := by
  obtain ⟨J, F, keys, rows, a1, a2, a3, a4, a5, rfl⟩ := l
  have hInvS : ∀ x i, x < (refI m J).2 → i < m.k → stepC m (refI m J).1 (someF m (refI m J).1 (refI m J).2 m.next.length) x i < (refI m J).2 := by
    intro x i hx hi
    have h1 : x < (someF m (refI m J).1 (refI m J).2 m.next.length).length := by rw [someF_len]; exact hx
    have h2 := someF_lt m (refI m J).1 (refI m J).2 _ _ (Nat.le_refl _) hm.n1 _ (List.getElem_mem h1)
    have h3 : i < m.next[(someF m (refI m J).1 (refI m J).2 m.next.length)[x]].length := by rw [hm.rl _ (List.getElem_mem h2)]; exact hi
    have h4 := hm.lt _ (List.getElem_mem h2) _ (List.getElem_mem h3)
    have : stepC m (refI m J).1 (someF m (refI m J).1 (refI m J).2 m.next.length) x i = (refI m J).1.getD m.next[(someF m (refI m J).1 (refI m J).2 m.next.length)[x]][i] 0 := by simp [stepC, h1, h2, h3]
    rw [this]
    exact refI_lt m J _ h4
  have hInv0 : (refI m J).1.getD 0 0 < (refI m J).2 := refI_lt m J 0 (by have := hm.n1; omega)
  obtain ⟨q1, q2⟩ := rIter_inv _ (-1) (· < (refI m J).2) m.k hInvS _ hInv0 F _ a3
  have hkl := nodup_lt _ keys q1 q2
  have hrl := rIter_rows _ _ _ _ F _ a5 a3
  have hro := rIter_rowsok _ _ _ _ F _ a3
  have h1 := rIter_len _ _ _ _ F _ a3
  have h2 := refI_le m J
  have h3 := hm.nmax
  simp only at hrl hro h1
  refine ⟨⟨hm.k1, hm.k4, by simp only; omega, by simp only; omega, by simp; omega, fun r hr => (hro r hr).1, fun r hr x hx => ?_⟩, rfl, by simp only; omega⟩
  have := (hro r hr).2 x hx
  simp only at this ⊢; omega
theorem least_wf {m : Dfa} (hm : m.wf) : (leastF m).wf := (LstOut.wf hm (lst_ok hm)).1
theorem least_k {m : Dfa} (hm : m.wf) : (leastF m).k = m.k := (LstOut.wf hm (lst_ok hm)).2.1
theorem least_n {m : Dfa} (hm : m.wf) : (leastF m).next.length ≤ m.next.length := (LstOut.wf hm (lst_ok hm)).2.2

/-- A machine as an automaton, and back. -/
theorem w_of (m : Dfa) : Pure Try.prog 66 [m.av] m.av := by
  refine pure_of (acalls_of Try.func66 rfl Try.call66 (by kernel_rfl) (by show _ ≤ (10 : Nat); simp) ?_)
  simp [Dfa.av]
  intro b1 hb1
  simp
  intro b2 hb2
  simp at hb2
  simp [hb2]
  exact finA_self rfl
theorem w_auto (m : Dfa) : Pure Try.prog 88 [m.av] m.av := by
  refine pure_of (acalls_of Try.func88 rfl Try.call88 (by kernel_rfl) (by show _ ≤ (10 : Nat); simp) ?_)
  simp [Dfa.av]
  intro b1 hb1
  simp
  intro b2 hb2
  simp at hb2
  simp [hb2]
  exact finA_self rfl
def noAuto : AV := .agg [.int .i64 0, .nilsl, .nilsl]
theorem w_keptT (m : Dfa) (hm : m.wf) : Pure Try.prog 70 [m.av, .bool true] (if 64 < (leastF m).next.length then .tup [noAuto, .int .i64 21] else .tup [(leastF m).av, .int .i64 0]) := by
  refine pure_of (acalls_of Try.func70 rfl Try.call70 (by kernel_rfl) (by show _ ≤ (18 : Nat); simp) ?_)
  have c1 := w_leastP hm
  have c2 := w_auto (leastF m)
  simp only [Dfa.av] at c1 c2 ⊢
  simp
  intro b2 hb2
  simp
  intro b4 hb4
  simp at hb4
  simp [hb4]
  refine c1.use ?_
  simp [hb4, nrowsA]
  by_cases h : 64 < (leastF m).next.length
  · have hI : (64 : Int) < (leastF m).next.length := by omega
    simp [h, hI, hb4]
    exact finA_self rfl
  · have hI : ¬ (64 : Int) < (leastF m).next.length := by omega
    simp [h, hI, hb4]
    refine c2.use ?_
    simp [hb4]
    exact finA_self rfl
theorem w_keptF (m : AV) (hm : m.fit = true) : Pure Try.prog 70 [m, .bool false] (.tup [noAuto, .int .i64 21]) := by
  refine pure_of (acalls_of Try.func70 rfl Try.call70 (by kernel_rfl) (by show _ ≤ (18 : Nat); simp) ?_)
  simp [hm]
  intro b2 hb2
  simp
  intro b4 hb4
  simp at hb4
  simp [hb4]
  exact finA_self rfl
/-- A letter's byte. -/
def ltr (i : Nat) : UInt8 := UInt8.ofNat (97 + i)
theorem w_letter (i : Nat) (hi : i < 4) : Pure Try.prog 124 [.int .i64 i] (.str [ltr i]) := by
  refine pure_of (acalls_of Try.func124 rfl Try.call124 (by kernel_rfl) (by show _ ≤ (7 : Nat); simp) ?_)
  simp
  have h1 : IntKind.i64.wrap (97 + (i : Int)) = 97 + i := wrap_i64 (by omega) (by omega)
  have h2 : IntKind.i32.wrap (97 + (i : Int)) = 97 + i := wrap_i32 (by omega) (by omega)
  rw [h1, h2]
  refine finA_self ?_
  have : i = 0 ∨ i = 1 ∨ i = 2 ∨ i = 3 := by omega
  rcases this with rfl | rfl | rfl | rfl <;> rfl
end Go.Proofs

end

section
/-
  Walks: the first words of a machine's states.
-/
namespace Go.Proofs
open Go Go.AH
set_option maxRecDepth 10000
set_option maxHeartbeats 4000000
set_option linter.unusedSectionVars false

def wStep (row : List Nat) (s : Nat) (ws : List (List UInt8)) (i : Nat) : List (List UInt8) :=
  if 0 < row.getD i 0 ∧ ws.getD (row.getD i 0) [] = [] then ws.set (row.getD i 0) (ws.getD s [] ++ [ltr i]) else ws
def wRow (row : List Nat) (s : Nat) (ws : List (List UInt8)) (j : Nat) : List (List UInt8) := (List.range j).foldl (wStep row s) ws
def wIter (m : Dfa) (s : Nat) : List (List UInt8) := (List.range s).foldl (fun ws s => wRow (m.next.getD s []) s ws m.k) (List.replicate m.next.length [])
def wItems (m : Dfa) : List (Nat × List UInt8) := (List.range m.next.length).map fun s => (s, (wIter m s).getD s [])
theorem wRow_succ (row : List Nat) (s : Nat) (ws : List (List UInt8)) (j : Nat) : wRow row s ws (j + 1) = wStep row s (wRow row s ws j) j := by simp [wRow, List.range_succ]
theorem wIter_succ (m : Dfa) (s : Nat) : wIter m (s + 1) = wRow (m.next.getD s []) s (wIter m s) m.k := by simp [wIter, List.range_succ]
theorem wRow_len (row : List Nat) (s : Nat) (ws : List (List UInt8)) (j : Nat) : (wRow row s ws j).length = ws.length := by
  induction j with
  | zero => simp [wRow]
  | succ j ih => rw [wRow_succ, wStep]; split <;> simp [ih]
theorem wIter_len (m : Dfa) (s : Nat) : (wIter m s).length = m.next.length := by
  induction s with
  | zero => simp [wIter]
  | succ s ih => rw [wIter_succ, wRow_len, ih]
theorem wRow_short (row : List Nat) (s : Nat) (ws : List (List UInt8)) (j L : Nat) (h : ∀ w ∈ ws, w.length ≤ L) : ∀ w ∈ wRow row s ws j, w.length ≤ L + j := by
  induction j with
  | zero => simpa [wRow] using h
  | succ j ih =>
    rw [wRow_succ, wStep]
    intro w hw
    split at hw
    · rcases List.mem_or_eq_of_mem_set hw with q | q
      · have := ih w q; omega
      · subst q
        have : ((wRow row s ws j).getD s []).length ≤ L + j := by
          rw [List.getD_eq_getElem?_getD]
          cases e : (wRow row s ws j)[s]? with
          | none => simp
          | some x => exact ih x (List.mem_of_getElem? e)
        rw [List.length_append, List.length_singleton]; omega
    · have := ih w hw; omega
theorem wIter_short (m : Dfa) (s : Nat) : ∀ w ∈ wIter m s, w.length ≤ m.k * s := by
  induction s with
  | zero => simp [wIter]
  | succ s ih =>
    rw [wIter_succ]
    intro w hw
    have := wRow_short _ s _ m.k _ ih w hw
    rw [Nat.mul_succ]; exact this

def itemA (x : Nat × List UInt8) : List AV := [.int .i64 (x.1 : Int), .str x.2]

theorem it_wordsG (m : Dfa) (hm : m.wf) (good : AV) : Iter Try.prog (.fn (.func 123) [] [.fptr [.int .i64 (m.k : Int), nrowsA m.next, good]]) itemA (wItems m) true := by
  intro γ I step go y g0 h0 hg0 hI0 _ hy
  rw [ACallV_func]
  refine acalls_of Try.func123 rfl Try.call123 (by kernel_rfl) (by show _ ≤ (56 : Nat); simp) ?_
  have hn1 := hm.n1
  have hnm := hm.nmax
  have hk4 := hm.k4
  simp [nrowsA]
  refine ⟨by omega, ?_⟩
  intro b3 hb3
  simp
  refine awp_loop_g (γ := Nat × γ × AHeap) (fun g t h => (g.1 ≤ m.next.length) ∧ (go g.2.1 = true) ∧ (I g.2.1 g.2.2) ∧ (Fresh g.2.2 b3) ∧ (runIt step go g0 (wItems m) = runIt step go g.2.1 ((wItems m).drop g.1)) ∧ (g.2.1 = ((wItems m).take g.1).foldl step g0) ∧ t 0 = y ∧ t 3 = .osl b3 0 m.next.length 1 ∧ t 13 = .sl m.next.length (m.next.map natsA) ∧ t 14 = .int .i64 m.next.length ∧ t 15 = .int .i64 g.1 ∧ h = g.2.2.upd b3 (.cells ((wIter m g.1).map .str))) (fun g => m.next.length - g.1) ((0, g0, h0)) (turnA_self (by simp [wIter, hg0, hI0, runIt, hb3])) ?_
  rintro g t h ⟨hs, hgo, hI, hf, hrun, hgi, h0, h3, h13, h14, h15, rfl⟩
  obtain ⟨s, g, hi⟩ := g
  simp only at h0 h3 h13 h14 h15 hs hgo hI hf hrun hgi
  by_cases hlt : s < m.next.length
  · have hwl := wIter_len m s
    have hsw : s < (wIter m s).length := by omega
    have hil : (wItems m).length = m.next.length := by simp [wItems]
    have hitem : (wItems m)[s]'(by omega) = (s, (wIter m s)[s]) := by simp [wItems, hsw]
    have hrow : m.next[s].length = m.k := hm.rl _ (List.getElem_mem hlt)
    have hdrop : (wItems m).drop s = (s, (wIter m s)[s]) :: (wItems m).drop (s + 1) := by
      rw [List.drop_eq_getElem_cons (by omega), hitem]
    rw [hdrop] at hrun
    simp only [runIt] at hrun
    have hsi : s < (wItems m).length := by omega
    have htake : (wItems m).take (s + 1) = (wItems m).take s ++ [(s, (wIter m s)[s])] := by rw [← hitem, List.take_append_getElem]
    have hy1 := hy s g (s, (wIter m s)[s]) hi (by rw [List.getElem?_eq_getElem hsi, hitem]) hgi hgo hI
    simp [h0, h3, h13, h14, h15, hlt, hwl, natsA]
    refine ACallV.mono (ACallV.keep hy1 hf) ?_
    rintro r h' ⟨h1', rfl, hf1, rfl, hI1⟩
    by_cases hgo1 : go (step g (s, (wIter m s)[s])) = true
    · rw [if_pos hgo1] at hrun
      have hshort := wIter_short m s
      simp [h0, h3, h13, h14, h15, hgo1, hrow]
      refine awp_loop_g (γ := Nat) (fun j t h => (j ≤ m.k) ∧ t 0 = y ∧ t 3 = .osl b3 0 m.next.length 1 ∧ t 4 = .int .i64 s ∧ t 13 = .sl m.next.length (m.next.map natsA) ∧ t 14 = .int .i64 m.next.length ∧ t 15 = .int .i64 s ∧ t 28 = .sl m.k ((m.next[s]'hlt).map fun x : Nat => AV.int .i64 (x : Int)) ∧ t 29 = .int .i64 m.k ∧ t 30 = .int .i64 j ∧ h = h1'.upd b3 (.cells ((wRow (m.next[s]'hlt) s (wIter m s) j).map .str))) (fun j => m.k - j) (0) (turnA_self (by simp [h0, h3, h13, h14, h15, wRow])) ?_
      rintro j t h ⟨hj, h0, h3, h4, h13, h14, h15, h28, h29, h30, rfl⟩
      by_cases hltj : j < m.k
      · have hjr : j < m.next[s].length := by omega
        have hx : m.next[s][j] < m.next.length := hm.lt _ (List.getElem_mem hlt) _ (List.getElem_mem hjr)
        have hrl := wRow_len (m.next[s]'hlt) s (wIter m s) j
        have hrs := wRow_short (m.next[s]'hlt) s (wIter m s) j _ hshort
        have hsucc := wRow_succ (m.next[s]'hlt) s (wIter m s) j
        obtain ⟨ws, hws⟩ : ∃ ws, ws = wRow (m.next[s]'hlt) s (wIter m s) j := ⟨_, rfl⟩
        rw [← hws] at hrl hrs hsucc ⊢
        have hxw : m.next[s][j] < ws.length := by omega
        have hsw2 : s < ws.length := by omega
        have hrowj : (m.next[s]'hlt).getD j 0 = m.next[s][j] := by simp [hjr]
        have hwx : ws.getD m.next[s][j] [] = ws[m.next[s][j]] := by simp [hxw]
        have hwss : ws.getD s [] = ws[s] := by simp [hsw2]
        simp only [wStep, hrowj, hwx, hwss] at hsucc
        have hw : IntKind.i64.wrap ((j : Int) + 1) = (j : Int) + 1 := wrap_i64 (by omega) (by omega)
        by_cases hpos : 0 < m.next[s][j]
        · by_cases he : ws[m.next[s][j]] = []
          · rw [if_pos ⟨hpos, he⟩] at hsucc
            have hsl := hrs _ (List.getElem_mem hsw2)
            have hmul : m.k * s ≤ 4 * 1000000 := Nat.mul_le_mul hk4 (by omega)
            have hlen : ws[s].length + 1 < 4611686018427387904 := by omega
            simp [h0, h3, h4, h13, h14, h15, h28, h29, h30, hltj, hjr, hpos, hxw, hx, he]
            refine awp_draw_text (by kernel_rfl) [51] [(.fn (.func 124) [] [], [.int .i64 (j : Int)], .str [ltr j])] (by kernel_rfl) (by kernel_rfl) (by simp; exact PureV.of (w_letter j (by omega))) ?_
            simp [h0, h3, h4, h13, h14, h15, h28, h29, h30, hlt, hx, hsw2, hxw, hlen]
            exact ⟨by omega, turnA_self ⟨j + 1, by omega, by omega, by simp [h0, h3, h4, h13, h14, h15, h28, h29, h30, hw, hsucc, List.map_set, hxw]⟩⟩
          · rw [if_neg (fun q => he q.2)] at hsucc
            simp [h0, h3, h4, h13, h14, h15, h28, h29, h30, hltj, hjr, hpos, hxw, hx, he]
            exact turnA_self ⟨j + 1, by omega, by omega, by simp [h0, h3, h4, h13, h14, h15, h28, h29, h30, hw, hsucc]⟩
        · rw [if_neg (fun q => hpos q.1)] at hsucc
          simp [h0, h3, h4, h13, h14, h15, h28, h29, h30, hltj, hjr, hpos, hxw, hx]
          exact turnA_self ⟨j + 1, by omega, by omega, by simp [h0, h3, h4, h13, h14, h15, h28, h29, h30, hw, hsucc]⟩
      · obtain rfl : j = m.k := by omega
        have hw : IntKind.i64.wrap ((s : Int) + 1) = (s : Int) + 1 := wrap_i64 (by omega) (by omega)
        have hws := wIter_succ m s
        have hgr : m.next.getD s [] = m.next[s] := by simp [hlt]
        rw [hgr] at hws
        simp [h0, h3, h4, h13, h14, h15, h28, h29, h30]
        exact turnA_self ⟨s + 1, by omega, by omega, step g (s, (wIter m s)[s]), hgo1, h1', hI1, hf1, hrun, by rw [htake, List.foldl_append, ← hgi]; rfl, by simp [h0, h3, h4, h13, h14, h15, h28, h29, h30, hw, hws]⟩
    · rw [if_neg hgo1] at hrun
      have hgo2 : go (step g (s, (wIter m s)[s])) = false := by simpa using hgo1
      simp [h0, h3, h13, h14, h15, hgo2]
      refine finA_same h1' ((Drop.refl _).upd hf1) ?_
      rw [hrun]; exact hI1
  · obtain rfl : s = m.next.length := by omega
    have hil : (wItems m).drop m.next.length = [] := by apply List.drop_of_length_le; simp [wItems]
    rw [hil] at hrun
    simp [h0, h3, h13, h14, h15]
    refine finA_same hi ((Drop.refl _).upd hf) ?_
    rw [hrun]; exact hI

theorem it_words (m : Dfa) (hm : m.wf) : Iter Try.prog (.fn (.func 123) [] [.fptr [.int .i64 (m.k : Int), nrowsA m.next, boolsA m.good]]) itemA (wItems m) true := it_wordsG m hm (boolsA m.good)
theorem w_wordsN (m : Dfa) : Pure Try.prog 71 [.agg [.int .i64 (m.k : Int), nrowsA m.next, .nilsl]] (.fn (.func 123) [] [.fptr [.int .i64 (m.k : Int), nrowsA m.next, .nilsl]]) := by
  refine pure_of (acalls_of Try.func71 rfl Try.call71 (by kernel_rfl) (by show _ ≤ (4 : Nat); simp) ?_)
  simp
  intro b1 hb1
  simp
  refine finA_all 2 ?_
  simp
theorem w_words (m : Dfa) : Pure Try.prog 71 [m.av] (.fn (.func 123) [] [.fptr [.int .i64 (m.k : Int), nrowsA m.next, boolsA m.good]]) := by
  refine pure_of (acalls_of Try.func71 rfl Try.call71 (by kernel_rfl) (by show _ ≤ (4 : Nat); simp) ?_)
  simp [Dfa.av]
  intro b1 hb1
  simp
  refine finA_all 2 ?_
  simp

def firstF (m : Dfa) : Option (List UInt8) := ((wItems m).find? fun x => m.good.getD x.1 false).map (·.2)
theorem runIt_first (p : Nat × List UInt8 → Bool) : ∀ (L : List (Nat × List UInt8)), runIt (fun (_ : Option (List UInt8)) x => if p x then some x.2 else none) (fun g => g.isNone) none L = (L.find? p).map (·.2)
  | [] => rfl
  | x :: L => by
    simp only [runIt, List.find?_cons]
    cases h : p x with
    | true => simp
    | false => simp [runIt_first p L]

theorem w_first (m : Dfa) (hm : m.wf) : Pure Try.prog 72 [m.av] (match firstF m with | some w => .tup [.str w, .bool true] | none => .tup [.str [], .bool false]) := by
  refine pure_of (acalls_of Try.func72 rfl Try.call72 (by kernel_rfl) (by show _ ≤ (16 : Nat); simp) ?_)
  have c1 := w_words m
  simp only [Dfa.av] at c1 ⊢
  simp
  intro b1 hb1
  simp
  intro b2 hb2
  simp at hb2
  simp
  intro b3 hb3
  simp at hb3
  simp [hb2, hb3]
  refine c1.use ?_
  simp
  refine awp_iter (L := wItems m) (by simp) (it_words m hm) (fun (g : Option (List UInt8)) h => h = ((AHeap.empty.upd b1 (.cells [.int .i64 (m.k : Int), nrowsA m.next, boolsA m.good])).upd b2 (.cells [.str (g.getD [])])).upd b3 (.cells [.bool g.isSome]))
    (fun _ x => if m.good.getD x.1 false then some x.2 else none) (fun g => g.map fun _ => .ret) none rfl (by simp) (by kernel_rfl) (by kernel_rfl) (by simp) (by intro a _; simp [itemA]) (.inl rfl) ?_ ?_ ?_
  · rintro l i g ⟨s, w⟩ h ha0 _ hj rfl
    have ha := List.mem_of_getElem? ha0
    obtain rfl : g = none := by
      cases g with
      | none => rfl
      | some w => simp at hj
    have hs : s < m.good.length := by
      simp only [wItems, List.mem_map, List.mem_range] at ha
      obtain ⟨s', h1, h2⟩ := ha
      simp only [Prod.mk.injEq] at h2
      rw [hm.gl]; omega
    simp [itemA, putsA, hb2, hb3, boolsA, hs]
    refine condA_case ?_ ?_
    · intro hg
      simp [hb2, hb3, hg]
      exact Drop.refl _
    · intro hg
      simp [hb2, hb3, hg]
      exact Drop.refl _
  · intro g e he
    cases g with
    | none => simp at he
    | some w => simp at he; exact .inl he.symm
  · rintro h' rfl
    have hr := runIt_first (fun x => m.good.getD x.1 false) (wItems m)
    have hgo : (fun g : Option (List UInt8) => (g.map fun _ => Exit.ret).isNone) = fun g => g.isNone := by funext g; cases g <;> rfl
    rw [hgo, hr]
    have hF : ((wItems m).find? fun x => m.good.getD x.1 false).map (·.2) = firstF m := rfl
    rw [hF]
    cases firstF m with
    | none =>
      simp [hb2, hb3]
      exact finA_self rfl
    | some w =>
      simp [hb2, hb3]
      exact finA_self rfl
end Go.Proofs

end

section
/-
  Walks: whether anything is an automaton (valid ones).
-/
namespace Go.Proofs
open Go Go.AH
set_option maxRecDepth 10000
set_option maxHeartbeats 4000000
set_option linter.unusedSectionVars false

/-- The first place whose number passes the test, or -1. -/
def idxI (l : List Int) (p : Int → Bool) : Int := if l.any p then ((l.findIdx p : Nat) : Int) else -1
def anyI (l : List Int) (p : Int → Bool) : Bool := l.any p
theorem w_indexFunc (l : List Int) (hl : l.length ≤ 4611686018427387904) (f : AV) (p : Int → Bool) (H : AHeap) (hp : ∀ x ∈ l, ACallV Try.prog f [.int .i64 x] H fun r h' => r = .bool (p x) ∧ h' = H) :
    ACalls Try.prog 137 [intsA l, f] H fun r h' => r = .int .i64 (idxI l p) ∧ h' = H := by
  refine acalls_of Try.func137 rfl Try.call137 (by kernel_rfl) (by show _ ≤ (19 : Nat); simp) ?_
  simp [intsA]
  refine awp_loop_g (γ := Nat) (fun k t h => (k ≤ l.length) ∧ (∀ i (hi : i < l.length), i < k → p l[i] = false) ∧ t 0 = .sl l.length (l.map (.int .i64)) ∧ t 1 = f ∧ t 7 = .int .i64 l.length ∧ t 8 = .int .i64 k ∧ h = H) (fun k => l.length - k) (0) (turnA_self (by simp)) ?_
  rintro k t h ⟨hk, hno, h0, h1, h7, h8, rfl⟩
  by_cases hlt : k < l.length
  · have hw : IntKind.i64.wrap ((k : Int) + 1) = (k : Int) + 1 := wrap_i64 (by omega) (by omega)
    simp [h0, h1, h7, h8, hlt]
    refine (hp _ (List.getElem_mem hlt)).use ?_
    simp
    refine condA_case ?_ ?_
    · intro hpk
      have h1' : l.any p = true := List.any_eq_true.2 ⟨l[k], List.getElem_mem hlt, hpk⟩
      have h2 : l.findIdx p = k := by
        rw [List.findIdx_eq hlt]
        exact ⟨hpk, fun i hi => hno i (by omega) hi⟩
      simp [h0, h1, h7, h8]
      refine finA_self ⟨?_, rfl⟩
      rw [idxI, if_pos h1', h2]
    · intro hpk
      simp [h0, h1, h7, h8]
      exact turnA_self ⟨k + 1, by omega, by omega, fun i hi hik => by
        by_cases e : i = k
        · subst e; exact hpk
        · exact hno i hi (by omega), by simp [h0, h1, h7, h8, hw]⟩
  · obtain rfl : k = l.length := by omega
    have h1' : l.any p = false := by
      rw [List.any_eq_false]
      intro x hx
      obtain ⟨i, hi, rfl⟩ := List.mem_iff_getElem.1 hx
      simp [hno i hi hi]
    simp [h0, h1, h7, h8]
    refine finA_self ⟨?_, rfl⟩
    rw [idxI, h1']; rfl
theorem w_containsFunc (l : List Int) (hl : l.length ≤ 4611686018427387904) (f : AV) (p : Int → Bool) (H : AHeap) (hp : ∀ x ∈ l, ACallV Try.prog f [.int .i64 x] H fun r h' => r = .bool (p x) ∧ h' = H) :
    ACalls Try.prog 111 [intsA l, f] H fun r h' => r = .bool (anyI l p) ∧ h' = H := by
  refine acalls_of Try.func111 rfl Try.call111 (by kernel_rfl) (by show _ ≤ (9 : Nat); simp) ?_
  simp
  refine (w_indexFunc l hl f p H hp).use ?_
  simp
  refine finA_self ⟨?_, rfl⟩
  by_cases h : l.any p = true
  · rw [idxI, anyI, if_pos h, h]; simp
  · have h' : l.any p = false := by simpa using h
    rw [idxI, anyI, if_neg h, h']; simp
theorem w_check1 (n : Int) (H : AHeap) (b : Nat) (e : cellsAt H b 0 = some [.int .i64 n]) (x : Int) : ACallV Try.prog (.fn (.func 112) [] [.ptr b 0]) [.int .i64 x] H fun r h' => r = .bool (decide (x < 0) || decide (n ≤ x)) ∧ h' = H := by
  rw [ACallV_func]
  refine acalls_of Try.func112 rfl Try.call112 (by kernel_rfl) (by show _ ≤ (11 : Nat); simp) ?_
  by_cases h : x < 0
  · simp [h]
    exact finA_self ⟨rfl, rfl⟩
  · simp [h, e]
    exact finA_self ⟨rfl, rfl⟩

/-- A valid automaton, its numbers as they come. -/
def Dfa.raw (m : Dfa) : RAuto := ⟨m.k, m.next.map fun r => r.map fun x : Nat => (x : Int), m.good⟩
theorem natsA_ints (l : List Nat) : natsA l = intsA (l.map fun x : Nat => (x : Int)) := by simp [natsA, intsA, Function.comp_def]
theorem nrowsA_rows (l : List (List Nat)) : nrowsA l = rowsA (l.map fun r => r.map fun x : Nat => (x : Int)) := by
  simp only [nrowsA, rowsA, List.length_map, List.map_map]
  congr 1
  apply List.map_congr_left
  intro r _
  exact natsA_ints r

theorem w_check (m : Dfa) (hm : m.ok) : Pure Try.prog 65 [m.av] (.int .i64 0) := by
  refine pure_of (acalls_of Try.func65 rfl Try.call65 (by kernel_rfl) (by show _ ≤ (48 : Nat); simp) ?_)
  obtain ⟨k1, k4, n1, n64, gl, rl, lt⟩ := hm
  have e1 : ¬ (m.k : Int) < 1 := by omega
  have e2 : ¬ (4 : Int) < m.k := by omega
  have e3 : ¬ (m.next.length : Int) < 1 := by omega
  have e4 : ¬ (64 : Int) < m.next.length := by omega
  have e1n : ¬ m.k = 0 := by omega
  have e3n : ¬ m.next = [] := by intro e; rw [e] at n1; simp at n1
  simp [Dfa.av, nrowsA, boolsA]
  intro b1 hb1
  simp [e1, e2, e1n]
  intro b3 hb3
  simp at hb3
  simp [hb3, e3, e4, gl, e3n]
  refine awp_loop_g (γ := Nat) (fun s t h => (s ≤ m.next.length) ∧ t 1 = .ptr b1 0 ∧ t 3 = .ptr b3 0 ∧ t 31 = .sl m.next.length (m.next.map natsA) ∧ t 32 = .int .i64 m.next.length ∧ t 33 = .int .i64 s ∧ h = (AHeap.empty.upd b1 (.cells [.int .i64 m.k, .sl m.next.length (m.next.map natsA), .sl m.next.length (m.good.map .bool)])).upd b3 (.cells [.int .i64 m.next.length])) (fun s => m.next.length - s) (0) (turnA_self (by simp)) ?_
  rintro s t h ⟨hs, h1, h3, h31, h32, h33, rfl⟩
  by_cases hlt : s < m.next.length
  · have hrow : m.next[s].length = m.k := rl _ (List.getElem_mem hlt)
    have hw : IntKind.i64.wrap ((s : Int) + 1) = (s : Int) + 1 := wrap_i64 (by omega) (by omega)
    have hany : ((m.next[s]'hlt).map fun x : Nat => (x : Int)).any (fun x => decide (x < 0) || decide ((m.next.length : Int) ≤ x)) = false := by
      rw [List.any_eq_false]
      intro x hx
      obtain ⟨y, hy, rfl⟩ := List.mem_map.1 hx
      have := lt _ (List.getElem_mem hlt) y hy
      simp; omega
    have c1 := w_containsFunc ((m.next[s]'hlt).map fun x : Nat => (x : Int)) (by simp; omega) (.fn (.func 112) [] [.ptr b3 0]) _ ((AHeap.empty.upd b1 (.cells [.int .i64 m.k, .sl m.next.length (m.next.map natsA), .sl m.next.length (m.good.map .bool)])).upd b3 (.cells [.int .i64 m.next.length]))
      (fun x _ => w_check1 m.next.length _ b3 (by simp) x)
    rw [anyI, hany] at c1
    have hnI : natsA (m.next[s]'hlt) = intsA ((m.next[s]'hlt).map fun x : Nat => (x : Int)) := natsA_ints _
    simp [h1, h3, h31, h32, h33, hlt, hb3, hnI, intsA, hrow]
    simp [intsA, hrow] at c1
    refine c1.use ?_
    simp [h1, h3, h31, h32, h33]
    exact turnA_self ⟨s + 1, by omega, by omega, by simp [h1, h3, h31, h32, h33, hw]⟩
  · obtain rfl : s = m.next.length := by omega
    simp [h1, h3, h31, h32, h33]
    exact finA_self rfl

theorem w_Least (m : Dfa) (hm : m.ok) : Pure Try.prog 23 [m.av] (if 64 < (leastF m).next.length then .tup [noAuto, .int .i64 21] else .tup [(leastF m).av, .int .i64 0]) := by
  refine pure_of (acalls_of Try.func23 rfl Try.call23 (by kernel_rfl) (by show _ ≤ (16 : Nat); simp) ?_)
  have c1 := w_check m hm
  have c2 := w_of m
  have c3 := w_keptT m hm.wf
  have hn := least_n hm.wf
  have h64 : ¬ 64 < (leastF m).next.length := by have := hm.n64; omega
  rw [if_neg h64] at c3 ⊢
  simp only [Dfa.av] at c1 c2 c3 ⊢
  simp
  intro b1 hb1
  simp
  intro b2 hb2
  simp at hb2
  simp [hb2]
  refine c1.use ?_
  simp [hb2]
  refine c2.use ?_
  simp [hb2]
  refine c3.use ?_
  simp [hb2]
  exact finA_self rfl

theorem w_First (m : Dfa) (hm : m.ok) : Pure Try.prog 25 [m.av] (match firstF (leastF m) with | some w => .tup [.str w, .int .i64 0] | none => .tup [.str [], .int .i64 4]) := by
  refine pure_of (acalls_of Try.func25 rfl Try.call25 (by kernel_rfl) (by show _ ≤ (22 : Nat); simp) ?_)
  have c1 := w_check m hm
  have c2 := w_of m
  have c3 := w_leastP hm.wf
  have c4 := w_first (leastF m) (least_wf hm.wf)
  simp only [Dfa.av] at c1 c2 c3 c4 ⊢
  simp
  intro b1 hb1
  simp
  refine c1.use ?_
  simp
  refine c2.use ?_
  simp
  refine c3.use ?_
  simp
  refine c4.use ?_
  cases firstF (leastF m) with
  | none =>
    simp
    exact finA_self rfl
  | some w =>
    simp
    exact finA_self rfl

theorem runIt_all {α : Type} : ∀ (L : List α) (g : List α), runIt (fun (g : List α) x => g ++ [x]) (fun _ => true) g L = g ++ L
  | [], g => by simp [runIt]
  | x :: L, g => by simp [runIt, runIt_all L]
/-- The first words, state by state. -/
def classesF (m : Dfa) : List (List UInt8) := (wItems m).map (·.2)
theorem w_Classes (m : Dfa) (hm : m.ok) : Pure Try.prog 24 [m.av] (.tup [strsA (classesF (leastF m)), .int .i64 0]) := by
  refine pure_of (acalls_of Try.func24 rfl Try.call24 (by kernel_rfl) (by show _ ≤ (24 : Nat); simp) ?_)
  have c1 := w_check m hm
  have c2 := w_of m
  have c3 := w_leastP hm.wf
  have hl := least_wf hm.wf
  have c4 := w_words (leastF m)
  simp only [Dfa.av] at c1 c2 c3 c4 ⊢
  simp
  intro b1 hb1
  simp
  refine c1.use ?_
  simp
  intro b5 hb5
  simp at hb5
  simp [hb5]
  refine c2.use ?_
  simp
  refine c3.use ?_
  simp
  refine c4.use ?_
  simp
  have hil : (wItems (leastF m)).length = (leastF m).next.length := by simp [wItems]
  refine awp_iter (L := wItems (leastF m)) (by simp) (it_words (leastF m) hl) (fun (g : List (Nat × List UInt8)) h => g.length ≤ (leastF m).next.length ∧ ∃ o : Option Nat, (o = none → g = []) ∧ (∀ b, o = some b → Fresh AHeap.empty b ∧ ¬ b = b1 ∧ ¬ b1 = b ∧ ¬ b = b5 ∧ ¬ b5 = b) ∧
      h = ((AHeap.empty.upd b1 (.cells [.int .i64 (m.k : Int), nrowsA m.next, boolsA m.good])).upd b5 (.cells [ownV o g.length 1])).updO o ((g.map (·.2)).map .str))
    (fun g x => g ++ [x]) (fun g => none) [] rfl ⟨by simp, none, by simp⟩ (by kernel_rfl) (by kernel_rfl) (by simp) (by intro a _; simp [itemA]) (.inl rfl) ?_ ?_ ?_
  · rintro l i g ⟨s, w⟩ h ha hgi _ ⟨hg, o, ho, hf, rfl⟩
    have hgl : g.length + 1 ≤ (leastF m).next.length := by
      have h1 := (List.getElem?_eq_some_iff.1 ha).1
      have h2 : ∀ (L : List (Nat × List UInt8)) (g : List (Nat × List UInt8)), (L.foldl (fun g x => g ++ [x]) g).length = g.length + L.length := by
        intro L
        induction L with
        | nil => intro g; simp
        | cons x L ih => intro g; rw [List.foldl_cons, ih]; simp; omega
      rw [hgi, h2]; simp; omega
    rcases o with _ | b
    · obtain rfl := ho rfl
      simp [itemA, putsA, hb5]
      intro b2 hb2
      simp at hb2
      simp [hb2, hb5]
      intro b3 hb3
      simp at hb3
      simp [hb2, hb3, hb5]
      refine ⟨((AHeap.empty.upd b1 (.cells [.int .i64 (m.k : Int), nrowsA m.next, boolsA m.good])).upd b5 (.cells [.osl b3 0 1 1])).upd b3 (.cells [.str w]), ?_, by have := hl.n1; omega, some b3, by simp [hb3]⟩
      refine Drop.both (Drop.new (Drop.refl _) ?_)
      simp [hb2]
    · have hf1 := hf b rfl
      simp [itemA, putsA, hb5, hf1]
      intro b2 hb2
      simp at hb2
      have hnm := hl.nmax
      simp [hb2, hb5, hf1]
      refine ⟨by omega, ?_⟩
      intro b3 hb3
      simp at hb3
      simp [hb2, hb3, hb5, hf1]
      refine ⟨((AHeap.empty.upd b1 (.cells [.int .i64 (m.k : Int), nrowsA m.next, boolsA m.good])).upd b5 (.cells [.osl b3 0 (g.length + 1) 1])).upd b3 (.cells (g.map (AV.str ∘ (·.2)) ++ [.str w])), ?_, hgl, some b3, by simp [hb3]⟩
      refine Drop.both (Drop.new (Drop.refl _) ?_)
      simp [hb2]
  · intro g e he; cases he
  · rintro h' ⟨hg, o, ho, hf, rfl⟩
    have hgo : (fun g : List (Nat × List UInt8) => ((fun _ => (none : Option Exit)) g).isNone) = fun _ => true := rfl
    have hr := runIt_all (wItems (leastF m)) []
    simp only [List.nil_append] at hr
    simp only [hgo, hr] at hg ho hf ⊢
    rcases o with _ | b
    · have := ho rfl
      rw [this] at hil; simp at hil
      have := hl.n1
      rw [← hil] at this; simp at this
    · have hf1 := hf b rfl
      simp [hb5, hf1]
      refine finA_all 2 ?_
      simp [hf1, strsA, classesF, hil, List.take_of_length_le]
end Go.Proofs
end
