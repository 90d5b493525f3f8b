/-
  Walks: the least machine.
-/
import Derived.Test.YtobhipohnjmnhaaWdCls
import Derived.Test.YtobhipohnjmnhaaWdRch
set_option linter.unusedSimpArgs false
set_option linter.unusedVariables false
set_option linter.unusedSectionVars false
namespace Go.Proofs
open Go Go.AH
set_option maxRecDepth 10000
set_option maxHeartbeats 4000000
set_option linter.unusedSectionVars false

/-- A state's sign under classes c. -/
def sgnF (m : Dfa) (c : List Nat) (s : Nat) : List Int := (c.getD s 0 : Int) :: (List.range 4).map fun i => if i < m.k then ((c.getD ((m.next.getD s []).getD i 0) 0 : Nat) : Int) else 0
theorem sgn_len (m : Dfa) (c : List Nat) (s : Nat) : (sgnF m c s).length = 5 := by simp [sgnF]
def cls0 (m : Dfa) : List Nat := clsF (fun s => m.good.getD s false) m.next.length
def many0 (m : Dfa) : Nat := (ddF (fun s => m.good.getD s false) m.next.length).length
def clsN (m : Dfa) (c : List Nat) : List Nat := clsF (sgnF m c) m.next.length
def manyN (m : Dfa) (c : List Nat) : Nat := (ddF (sgnF m c) m.next.length).length
/-- Classes after so many rounds, and how many there are. -/
def refI (m : Dfa) : Nat → List Nat × Nat
  | 0 => (cls0 m, many0 m)
  | j + 1 => (clsN m (refI m j).1, manyN m (refI m j).1)
theorem refI_len (m : Dfa) (j : Nat) : (refI m j).1.length = m.next.length := by cases j <;> simp [refI, cls0, clsN, clsF_len]

section
variable {α β : Type} [DecidableEq α] [DecidableEq β]
theorem mem_ddF (κ : Nat → α) (x : α) : ∀ n, x ∈ ddF κ n ↔ ∃ s, s < n ∧ κ s = x
  | 0 => by simp [ddF]
  | n + 1 => by
    have ih := mem_ddF κ x n
    simp only [ddF]
    constructor
    · intro h
      split at h
      · obtain ⟨s, h1, h2⟩ := ih.1 h; exact ⟨s, by omega, h2⟩
      · rcases List.mem_append.1 h with h | h
        · obtain ⟨s, h1, h2⟩ := ih.1 h; exact ⟨s, by omega, h2⟩
        · exact ⟨n, by omega, (List.mem_singleton.1 h).symm⟩
    · rintro ⟨s, h1, h2⟩
      by_cases hs : s = n
      · subst hs
        split
        · next hm => rw [← h2]; exact hm
        · rw [← h2]; simp
      · have := ih.2 ⟨s, by omega, h2⟩
        split
        · exact this
        · simp [this]
theorem ddF_nodup (κ : Nat → α) : ∀ n, (ddF κ n).Nodup
  | 0 => by simp [ddF]
  | n + 1 => by
    have ih := ddF_nodup κ n
    simp only [ddF]
    split
    · exact ih
    · next hm =>
      rw [List.nodup_append]
      refine ⟨ih, by simp, fun a ha b hb => ?_⟩
      rw [List.mem_singleton.1 hb]
      rintro rfl
      exact hm ha
/-- Finer keys are no fewer. -/
theorem ddF_fine (κ : Nat → α) (κ' : Nat → β) : ∀ n, (∀ s t, s < n → t < n → κ' s = κ' t → κ s = κ t) → (ddF κ n).length ≤ (ddF κ' n).length
  | 0, _ => by simp [ddF]
  | n + 1, h => by
    have ih := ddF_fine κ κ' n fun s t hs ht => h s t (by omega) (by omega)
    simp only [ddF]
    by_cases h1 : κ n ∈ ddF κ n
    · rw [if_pos h1]
      split
      · exact ih
      · rw [List.length_append]; omega
    · rw [if_neg h1]
      have h2 : ¬ κ' n ∈ ddF κ' n := by
        intro hm
        obtain ⟨s, hs, e⟩ := (mem_ddF κ' _ n).1 hm
        exact h1 ((mem_ddF κ _ n).2 ⟨s, hs, h s n (by omega) (by omega) e⟩)
      rw [if_neg h2]
      simp; omega
theorem ixF_lt {D : List α} {x : α} (h : x ∈ D) : ixF D x < D.length := List.idxOf_lt_length_of_mem h
theorem ixF_get {D : List α} {x : α} (h : x ∈ D) : D[ixF D x]'(ixF_lt h) = x := List.getElem_idxOf _
theorem ixF_inj {D : List α} {x y : α} (hx : x ∈ D) (hy : y ∈ D) (e : ixF D x = ixF D y) : x = y := by
  have h1 := ixF_get hx
  have h2 := ixF_get hy
  rw [← h1, ← h2]
  simp only [e]
theorem ddF_pre (κ : Nat → α) (n : Nat) : ∀ m, n ≤ m → ∃ E, ddF κ m = ddF κ n ++ E
  | 0, h => ⟨[], by have : n = 0 := by omega
                    subst this; simp⟩
  | m + 1, h => by
    by_cases hn : n = m + 1
    · subst hn; exact ⟨[], by simp⟩
    · obtain ⟨E, hE⟩ := ddF_pre κ n m (by omega)
      simp only [ddF]
      split
      · exact ⟨E, hE⟩
      · exact ⟨E ++ [κ m], by rw [hE]; simp⟩
/-- The classes, each by its key's number. -/
theorem clsF_get (κ : Nat → α) : ∀ n s, s < n → (clsF κ n).getD s 0 = ixF (ddF κ n) (κ s)
  | 0, s, h => by omega
  | n + 1, s, h => by
    have hl := clsF_len κ n
    simp only [clsF]
    by_cases hs : s = n
    · subst hs
      rw [List.getD_eq_getElem?_getD, List.getElem?_append_right (by omega)]
      simp [hl]
    · have h1 : s < n := by omega
      rw [List.getD_eq_getElem?_getD, List.getElem?_append_left (by omega), ← List.getD_eq_getElem?_getD, clsF_get κ n s h1]
      obtain ⟨E, hE⟩ := ddF_pre κ n (n + 1) (by omega)
      rw [hE]
      exact (idx_app_mem ((mem_ddF κ _ n).2 ⟨s, h1, rfl⟩)).symm
theorem clsF_eq (κ : Nat → α) (n s t : Nat) (hs : s < n) (ht : t < n) : (clsF κ n).getD s 0 = (clsF κ n).getD t 0 ↔ κ s = κ t := by
  rw [clsF_get κ n s hs, clsF_get κ n t ht]
  exact ⟨fun e => ixF_inj ((mem_ddF κ _ n).2 ⟨s, hs, rfl⟩) ((mem_ddF κ _ n).2 ⟨t, ht, rfl⟩) e, fun e => by rw [e]⟩
theorem clsF_lt (κ : Nat → α) (n s : Nat) (hs : s < n) : (clsF κ n).getD s 0 < (ddF κ n).length := by
  rw [clsF_get κ n s hs]; exact ixF_lt ((mem_ddF κ _ n).2 ⟨s, hs, rfl⟩)
end

theorem refI_lt (m : Dfa) (j s : Nat) (hs : s < m.next.length) : (refI m j).1.getD s 0 < (refI m j).2 := by
  cases j with
  | zero => exact clsF_lt _ _ _ hs
  | succ j => exact clsF_lt _ _ _ hs
theorem refI_le (m : Dfa) (j : Nat) : (refI m j).2 ≤ m.next.length := by
  cases j with
  | zero => exact ddF_le _ _
  | succ j => exact ddF_le _ _
theorem refI_mono (m : Dfa) (j : Nat) : (refI m j).2 ≤ (refI m (j + 1)).2 := by
  have key : ∀ s t, sgnF m (refI m j).1 s = sgnF m (refI m j).1 t → (refI m j).1.getD s 0 = (refI m j).1.getD t 0 := by
    intro s t e
    simp only [sgnF, List.cons.injEq] at e
    omega
  cases j with
  | zero => exact ddF_fine _ _ _ fun s t hs ht e => (clsF_eq _ _ _ _ hs ht).1 (key s t e)
  | succ j => exact ddF_fine _ _ _ fun s t hs ht e => (clsF_eq _ _ _ _ hs ht).1 (key s t e)

/-! ### closures -/
theorem w_least1 (m : Dfa) (hm : m.wf) (H : AHeap) (b1 : Nat) (e1 : ∀ off, cellsAt H b1 off = some (([.int .i64 (m.k : Int), nrowsA m.next, boolsA m.good] : List AV).drop off)) (s : Nat) (hs : s < m.next.length) :
    ACallV Try.prog (.fn (.func 114) [] [.ptr b1 0]) [.int .i64 (s : Int)] H fun r h' => r = .bool (m.good.getD s false) ∧ h' = H := by
  rw [ACallV_func]
  refine acalls_of Try.func114 rfl Try.call114 (by kernel_rfl) (by show _ ≤ (9 : Nat); simp) ?_
  have hg : s < m.good.length := by rw [hm.gl]; exact hs
  simp [e1, boolsA, hg]
  exact finA_self ⟨rfl, rfl⟩

def sgnP (m : Dfa) (c : List Nat) (s j : Nat) : List Int := (c.getD s 0 : Int) :: (List.range 4).map fun i => if i < j then ((c.getD ((m.next.getD s []).getD i 0) 0 : Nat) : Int) else 0
theorem sgnP_succ (m : Dfa) (c : List Nat) (s j : Nat) (hj : j < 4) : sgnP m c s (j + 1) = (sgnP m c s j).set (j + 1) ((c.getD ((m.next.getD s []).getD j 0) 0 : Nat) : Int) := by
  have : j = 0 ∨ j = 1 ∨ j = 2 ∨ j = 3 := by omega
  rcases this with rfl | rfl | rfl | rfl <;> simp [sgnP, List.range_succ]
theorem sgnP_len (m : Dfa) (c : List Nat) (s j : Nat) : (sgnP m c s j).length = 5 := by simp [sgnP]
theorem w_least2 (m : Dfa) (hm : m.wf) (H : AHeap) (b1 b2 : Nat) (c : List Nat) (hc : c.length = m.next.length) (e1 : cellsAt H b1 0 = some [natsA c]) (e2 : ∀ off, cellsAt H b2 off = some (([.int .i64 (m.k : Int), nrowsA m.next, boolsA m.good] : List AV).drop off)) (s : Nat) (hs : s < m.next.length) :
    ACallV Try.prog (.fn (.func 116) [] [.ptr b1 0, .ptr b2 0]) [.int .i64 (s : Int)] H fun r h' => r = signA (sgnF m c s) ∧ h' = H := by
  rw [ACallV_func]
  refine acalls_of Try.func116 rfl Try.call116 (by kernel_rfl) (by show _ ≤ (33 : Nat); simp) ?_
  have hg : s < c.length := by rw [hc]; exact hs
  have hrow : m.next[s].length = m.k := hm.rl _ (List.getElem_mem hs)
  simp
  intro b4 hb4
  have n4 := ne_fresh e1 hb4
  have n4' := ne_fresh (e2 0) hb4
  simp [e1, n4, natsA, hg]
  intro b5 hb5
  simp at hb5
  have n5 := ne_fresh e1 hb5.2.2
  have n5' := ne_fresh (e2 0) hb5.2.2
  simp [e1, e2, n4, n4', n5, n5', hb5, nrowsA, hs, natsA]
  refine awp_loop_g (γ := Nat) (fun j t h => (j ≤ m.k) ∧ t 1 = .ptr b1 0 ∧ t 4 = .ptr b4 0 ∧ t 5 = .ptr b5 0 ∧ t 17 = .sl m.k ((m.next[s]'hs).map fun x : Nat => AV.int .i64 (x : Int)) ∧ t 18 = .int .i64 m.k ∧ t 19 = .int .i64 j ∧ h = (H.upd b4 (.cells [.int .i64 0, .int .i64 0, .int .i64 0, .int .i64 0, .int .i64 0])).upd b5 (.cells ((sgnP m c s j).map (.int .i64)))) (fun j => m.k - j) (0) (turnA_self (by simp [sgnP, hrow, hg, List.range_succ])) ?_
  rintro j t h ⟨hj, h1, h4, h5, h17, h18, h19, rfl⟩
  by_cases hlt : j < m.k
  · have hjr : j < m.next[s].length := by omega
    have hx : m.next[s][j] < m.next.length := hm.lt _ (List.getElem_mem hs) _ (List.getElem_mem hjr)
    have hx2 : m.next[s][j] < c.length := by omega
    have hw : IntKind.i64.wrap ((j : Int) + 1) = (j : Int) + 1 := wrap_i64 (by have := hm.k4; omega) (by have := hm.k4; omega)
    have hsucc := sgnP_succ m c s j (by have := hm.k4; omega)
    have hgx : (c.getD ((m.next.getD s []).getD j 0) 0) = c[m.next[s][j]] := by simp [hs, hjr, hx2]
    rw [hgx] at hsucc
    have hl := sgnP_len m c s j
    have h14 : 1 + j < 5 := by have := hm.k4; omega
    have hj4 : (j : Int) < 4 := by have := hm.k4; omega
    have hj4n : j < 4 := by omega
    simp [h1, h4, h5, h17, h18, h19, hlt, e1, n4, n4', n5, n5', hb5, natsA, hjr, hx2, hl, h14, hj4, hj4n, splice_one, Nat.add_comm 1 j]
    exact ⟨by omega, turnA_self ⟨j + 1, by omega, by omega, by simp [h1, h4, h5, h17, h18, h19, hw, hsucc, List.map_set, hl, show j + 1 < 5 from by omega]⟩⟩
  · obtain rfl : j = m.k := by omega
    have hE : sgnP m c s m.k = sgnF m c s := rfl
    rw [hE]
    have hl := sgn_len m c s
    generalize sgnF m c s = q at hl ⊢
    match q, hl with
    | [x0, x1, x2, x3, x4], _ =>
    simp [h1, h4, h5, h17, h18, h19, hb5, splice_all]
    exact finA_same H (((Drop.refl _).new hb4).new hb5.2.2) ⟨rfl, rfl⟩

/-! ### the least machine -/
/-- A state of each class. -/
def someF (m : Dfa) (c : List Nat) (many s : Nat) : List Nat := (List.range s).foldl (fun sm s => sm.set (c.getD s 0) s) (List.replicate many 0)
theorem someF_succ (m : Dfa) (c : List Nat) (many s : Nat) : someF m c many (s + 1) = (someF m c many s).set (c.getD s 0) s := by simp [someF, List.range_succ]
theorem someF_len (m : Dfa) (c : List Nat) (many s : Nat) : (someF m c many s).length = many := by
  induction s with
  | zero => simp [someF]
  | succ s ih => rw [someF_succ]; simp [ih]
theorem someF_lt (m : Dfa) (c : List Nat) (many : Nat) : ∀ s n, s ≤ n → 1 ≤ n → ∀ x ∈ someF m c many s, x < n
  | 0, n, _, h1, x, hx => by simp [someF] at hx; omega
  | s + 1, n, h, h1, x, hx => by
    rw [someF_succ] at hx
    rcases List.mem_or_eq_of_mem_set hx with q | q
    · exact someF_lt m c many s n (by omega) h1 x q
    · omega
def stepC (m : Dfa) (c sm : List Nat) (x i : Nat) : Nat := c.getD ((m.next.getD (sm.getD x 0) []).getD i 0) 0

theorem w_least3 (m : Dfa) (hm : m.wf) (H : AHeap) (b1 b2 b3 b7 : Nat) (c sm : List Nat) (hc : c.length = m.next.length) (hsm : ∀ x ∈ sm, x < m.next.length) (e1 : cellsAt H b1 0 = some [natsA c]) (e2 : ∀ off, cellsAt H b2 off = some (([.int .i64 (m.k : Int), nrowsA m.next, boolsA m.good] : List AV).drop off)) (e3 : cellsAt H b3 0 = some [.osl b7 0 sm.length 1]) (e7 : ∀ off, cellsAt H b7 off = some ((sm.map fun x : Nat => AV.int .i64 (x : Int)).drop off)) (x : Nat) (hx : x < sm.length) (i : Nat) (hi : i < m.k) :
    ACallV Try.prog (.fn (.func 118) [] [.ptr b1 0, .ptr b2 0, .ptr b3 0]) [.int .i64 (x : Int), .int .i64 (i : Int)] H fun r h' => r = .int .i64 (stepC m c sm x i : Int) ∧ h' = H := by
  rw [ACallV_func]
  refine acalls_of Try.func118 rfl Try.call118 (by kernel_rfl) (by show _ ≤ (22 : Nat); simp) ?_
  have h1 := hsm _ (List.getElem_mem hx)
  have hrow : m.next[sm[x]].length = m.k := hm.rl _ (List.getElem_mem h1)
  have hir : i < m.next[sm[x]].length := by omega
  have h2 := hm.lt _ (List.getElem_mem h1) _ (List.getElem_mem hir)
  have h3 : m.next[sm[x]][i] < c.length := by omega
  simp
  refine awp_draw_text (by kernel_rfl) [] [] (by kernel_rfl) (by kernel_rfl) (by simp) ?_
  simp [e1, e2, e3, e7, nrowsA, natsA, hx, h1, hir, h3]
  refine finA_self ⟨?_, rfl⟩
  simp [stepC, hx, h1, hir, h3]

/-! bounded searches end -/
section
variable {α : Type} [DecidableEq α]
theorem rStep_neg (ν : α → Nat → α) (x : α) (st : List α × List Nat) (i : Nat) : ∃ r, rStep ν (-1) x (some st) i = some r := by
  simp only [rStep, Option.bind_some]
  split
  · exact ⟨_, rfl⟩
  · rw [if_neg (by omega)]; exact ⟨_, rfl⟩
theorem rRow_neg (ν : α → Nat → α) (x : α) (keys : List α) : ∀ k, ∃ r, rRow ν (-1) x keys k = some r
  | 0 => ⟨(keys, []), by simp [rRow]⟩
  | k + 1 => by
    obtain ⟨r, hr⟩ := rRow_neg ν x keys k
    rw [rRow_succ, hr]
    exact rStep_neg ν x r k
theorem rIter_neg (ν : α → Nat → α) (k : Nat) (start : α) : ∀ a, ∃ r, rIter ν (-1) k start a = some r
  | 0 => ⟨_, rfl⟩
  | a + 1 => by
    obtain ⟨r, hr⟩ := rIter_neg ν k start a
    simp only [rIter, hr, Option.bind_some]
    split
    · next x hx =>
      obtain ⟨q, hq⟩ := rRow_neg ν x r.1 k
      rw [hq]; exact ⟨_, rfl⟩
    · exact ⟨_, rfl⟩
theorem rRow_inv (ν : α → Nat → α) (most : Int) (Inv : α → Prop) (x : α) (hx : Inv x) (keys : List α) (hk : keys.Nodup ∧ ∀ y ∈ keys, Inv y) : ∀ (k : Nat) (st : List α × List Nat), (∀ x i, Inv x → i < k → Inv (ν x i)) → rRow ν most x keys k = some st → st.1.Nodup ∧ ∀ y ∈ st.1, Inv y
  | 0, st, _, e => by simp [rRow] at e; subst e; exact hk
  | k + 1, st, hν, e => by
    rw [rRow_succ] at e
    cases h : rRow ν most x keys k with
    | none => rw [h] at e; simp [rStep] at e
    | some st' =>
      obtain ⟨h1, h2⟩ := rRow_inv ν most Inv x hx keys hk k st' (fun x i hx hi => hν x i hx (by omega)) h
      rw [h] at e
      simp only [rStep, Option.bind_some] at e
      split at e
      · simp only [Option.some.injEq] at e; subst e; exact ⟨h1, h2⟩
      · split at e
        · cases e
        · next hm _ =>
          simp only [Option.some.injEq] at e; subst e
          simp only
          refine ⟨?_, fun y hy => ?_⟩
          · rw [List.nodup_append]
            refine ⟨h1, by simp, fun a ha b hb => ?_⟩
            rw [List.mem_singleton.1 hb]
            rintro rfl; exact hm ha
          · rcases List.mem_append.1 hy with q | q
            · exact h2 y q
            · rw [List.mem_singleton.1 q]; exact hν x k hx (by omega)
theorem rIter_inv (ν : α → Nat → α) (most : Int) (Inv : α → Prop) (k : Nat) (hν : ∀ x i, Inv x → i < k → Inv (ν x i)) (start : α) (hs : Inv start) : ∀ (a : Nat) (st : List α × List (List Nat)), rIter ν most k start a = some st → st.1.Nodup ∧ ∀ y ∈ st.1, Inv y
  | 0, st, e => by simp [rIter] at e; subst e; simp [hs]
  | a + 1, st, e => by
    simp only [rIter] at e
    cases h : rIter ν most k start a with
    | none => rw [h] at e; cases e
    | some st' =>
      have ih := rIter_inv ν most Inv k hν start hs a st' h
      rw [h] at e
      simp only [Option.bind_some] at e
      split at e
      · next x hx =>
        cases hr : rRow ν most x st'.1 k with
        | none => rw [hr] at e; cases e
        | some r =>
          rw [hr] at e
          simp only [Option.map_some, Option.some.injEq] at e
          subst e
          exact rRow_inv ν most Inv x (ih.2 x (List.mem_of_getElem? hx)) st'.1 ih k r hν hr
      · simp only [Option.some.injEq] at e; subst e; exact ih
/-- Where no more than N keys can be met, the search ends. -/
theorem rIter_end (ν : α → Nat → α) (most : Int) (k : Nat) (start : α) (N : Nat) (hN : ∀ a st, rIter ν most k start a = some st → st.1.length ≤ N) :
    ∃ F, F ≤ N + 1 ∧ 1 ≤ F ∧ (∀ a st, a < F → rIter ν most k start a = some st → a < st.1.length) ∧ ∀ st, rIter ν most k start F = some st → st.1.length = F := by
  -- the first round at which all keys have been met
  have key : ∀ n, (∃ F, F ≤ n ∧ (∀ a st, a < F → rIter ν most k start a = some st → a < st.1.length) ∧ ∀ st, rIter ν most k start F = some st → st.1.length ≤ F) ∨ ∀ a st, a ≤ n → rIter ν most k start a = some st → a < st.1.length := by
    intro n
    induction n with
    | zero =>
      by_cases h : ∀ st, rIter ν most k start 0 = some st → st.1.length ≤ 0
      · exact .inl ⟨0, Nat.le_refl _, fun a st ha => by omega, h⟩
      · refine .inr fun a st ha e => ?_
        obtain rfl : a = 0 := by omega
        have := rIter_len ν most k start 0 st e
        omega
    | succ n ih =>
      rcases ih with ⟨F, h1, h2⟩ | ih
      · exact .inl ⟨F, by omega, h2⟩
      · by_cases h : ∀ st, rIter ν most k start (n + 1) = some st → st.1.length ≤ n + 1
        · exact .inl ⟨n + 1, Nat.le_refl _, fun a st ha e => ih a st (by omega) e, h⟩
        · refine .inr fun a st ha e => ?_
          by_cases ha' : a = n + 1
          · subst ha'
            exact Classical.byContradiction fun hc => h fun st' e' => by
              rw [e] at e'; cases e'; omega
          · exact ih a st (by omega) e
  have key2 : ∃ F, F ≤ N + 1 ∧ (∀ a st, a < F → rIter ν most k start a = some st → a < st.1.length) ∧ ∀ st, rIter ν most k start F = some st → st.1.length ≤ F := by
    rcases key (N + 1) with ⟨F, h1, h2⟩ | h
    · exact ⟨F, h1, h2⟩
    · refine ⟨N + 1, Nat.le_refl _, fun a st ha e => h a st (by omega) e, fun st e => ?_⟩
      have h1 := h (N + 1) st (Nat.le_refl _) e
      have h2 := hN _ _ e
      omega
  obtain ⟨F, h1, h2, h3⟩ := key2
  have hF1 : 1 ≤ F := by
    rcases Nat.eq_zero_or_pos F with rfl | h
    · have := h3 ([start], []) rfl; simp at this
    · exact h
  refine ⟨F, h1, hF1, h2, fun st e => ?_⟩
  have h4 := h3 st e
  -- no fewer keys than rounds
  obtain ⟨a, rfl⟩ : ∃ a, F = a + 1 := ⟨F - 1, by omega⟩
  simp only [rIter] at e
  cases h : rIter ν most k start a with
  | none => rw [h] at e; cases e
  | some st' =>
    have h5 := h2 a st' (by omega) h
    rw [h] at e
    simp only [Option.bind_some, List.getElem?_eq_getElem h5] at e
    cases hr : rRow ν most st'.1[a] st'.1 k with
    | none => rw [hr] at e; cases e
    | some r =>
      rw [hr] at e
      simp only [Option.map_some, Option.some.injEq] at e
      subst e
      have := rRow_len ν most _ st'.1 k r hr
      simp only at h4 ⊢
      omega
end
theorem nodup_lt : ∀ (N : Nat) (l : List Nat), l.Nodup → (∀ x ∈ l, x < N) → l.length ≤ N
  | 0, l, _, h => by
    cases l with
    | nil => simp
    | cons x l => exact absurd (h x (by simp)) (by omega)
  | N + 1, l, hn, h => by
    have h1 := nodup_lt N (l.erase N) (hn.erase N) fun x hx => by
      have h2 := h x (List.mem_of_mem_erase hx)
      have h3 : x ≠ N := fun e => by
        subst e
        exact (List.Nodup.not_mem_erase hn) hx
      omega
    have := List.length_erase_le (a := N) (l := l)
    have h4 : l.length ≤ (l.erase N).length + 1 := by
      by_cases hm : N ∈ l
      · rw [List.length_erase_of_mem hm]; omega
      · rw [List.erase_of_not_mem hm]; omega
    omega
end Go.Proofs
