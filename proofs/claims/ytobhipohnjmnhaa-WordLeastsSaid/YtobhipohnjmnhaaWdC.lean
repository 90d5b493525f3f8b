/-
  Walks: small functions round the least machine; the words of its states.
-/
import Derived.Test.YtobhipohnjmnhaaWdLst2
set_option linter.unusedSimpArgs false
set_option linter.unusedVariables false
set_option linter.unusedSectionVars false
namespace Go.Proofs
open Go Go.AH
set_option maxRecDepth 10000
set_option maxHeartbeats 4000000
set_option linter.unusedSectionVars false

theorem refI_stops (m : Dfa) : ∀ (d j : Nat), m.next.length - (refI m j).2 ≤ d → (∀ i, i < j → (refI m (i + 1)).2 ≠ (refI m i).2) → ∃ J, (∀ i, i < J → (refI m (i + 1)).2 ≠ (refI m i).2) ∧ (refI m (J + 1)).2 = (refI m J).2
  | d, j, hd, hj => by
    by_cases h : (refI m (j + 1)).2 = (refI m j).2
    · exact ⟨j, hj, h⟩
    · have h1 := refI_mono m j
      have h2 := refI_le m (j + 1)
      cases d with
      | zero => omega
      | succ d =>
        refine refI_stops m d (j + 1) (by omega) fun i hi => ?_
        by_cases e : i = j
        · subst e; exact h
        · exact hj i (by omega)
theorem lst_ok {m : Dfa} (hm : m.wf) : LstOut m (leastF m) := by
  obtain ⟨J, hj, heq⟩ := refI_stops m _ 0 (Nat.le_refl _) (fun i hi => by omega)
  have hInvS : ∀ x i, x < (refI m J).2 → i < m.k → stepC m (refI m J).1 (someF m (refI m J).1 (refI m J).2 m.next.length) x i < (refI m J).2 := by
    intro x i hx hi
    have h1 : x < (someF m (refI m J).1 (refI m J).2 m.next.length).length := by rw [someF_len]; exact hx
    have h2 := someF_lt m (refI m J).1 (refI m J).2 _ _ (Nat.le_refl _) hm.n1 _ (List.getElem_mem h1)
    have h3 : i < m.next[(someF m (refI m J).1 (refI m J).2 m.next.length)[x]].length := by rw [hm.rl _ (List.getElem_mem h2)]; exact hi
    have h4 := hm.lt _ (List.getElem_mem h2) _ (List.getElem_mem h3)
    have : stepC m (refI m J).1 (someF m (refI m J).1 (refI m J).2 m.next.length) x i = (refI m J).1.getD m.next[(someF m (refI m J).1 (refI m J).2 m.next.length)[x]][i] 0 := by simp [stepC, h1, h2, h3]
    rw [this]
    exact refI_lt m J _ h4
  have hInv0 : (refI m J).1.getD 0 0 < (refI m J).2 := refI_lt m J 0 (by have := hm.n1; omega)
  obtain ⟨F, F1, F2, F3, F4⟩ := rIter_end (stepC m (refI m J).1 (someF m (refI m J).1 (refI m J).2 m.next.length)) (-1) m.k ((refI m J).1.getD 0 0) (refI m J).2 (fun a st e => by
    obtain ⟨q1, q2⟩ := rIter_inv _ (-1) (· < (refI m J).2) m.k hInvS _ hInv0 a st e
    exact nodup_lt _ st.1 q1 q2)
  obtain ⟨⟨keys, rows⟩, hkr⟩ := rIter_neg (stepC m (refI m J).1 (someF m (refI m J).1 (refI m J).2 m.next.length)) m.k ((refI m J).1.getD 0 0) F
  have : LstOut m _ := ⟨J, F, keys, rows, hj, heq, hkr, F4 _ hkr, F3, rfl⟩
  rw [leastF_eq this]; exact this
theorem w_leastP {m : Dfa} (hm : m.wf) : Pure Try.prog 67 [m.av] (leastF m).av := fun H => (w_least m hm H).mono fun r h' ⟨e1, _, e2⟩ => ⟨e1, e2⟩

/-- What the rows are bounded by. -/
theorem rRow_lt {α : Type} [DecidableEq α] (ν : α → Nat → α) (most : Int) (x : α) (keys : List α) : ∀ (k : Nat) (st : List α × List Nat), rRow ν most x keys k = some st → ∀ y ∈ st.2, y < st.1.length
  | 0, st, e => by simp [rRow] at e; subst e; simp
  | k + 1, st, e => by
    rw [rRow_succ] at e
    cases h : rRow ν most x keys k with
    | none => rw [h] at e; simp [rStep] at e
    | some st' =>
      have ih := rRow_lt ν most x keys k st' h
      rw [h] at e
      simp only [rStep, Option.bind_some] at e
      split at e
      · next hm =>
        simp only [Option.some.injEq] at e; subst e
        intro y hy
        rcases List.mem_append.1 hy with q | q
        · exact ih y q
        · rw [List.mem_singleton.1 q]; exact ixF_lt hm
      · split at e
        · cases e
        · simp only [Option.some.injEq] at e; subst e
          intro y hy
          rcases List.mem_append.1 hy with q | q
          · have := ih y q; simp; omega
          · rw [List.mem_singleton.1 q]; simp
theorem rIter_rowsok {α : Type} [DecidableEq α] (ν : α → Nat → α) (most : Int) (k : Nat) (start : α) : ∀ (a : Nat) (st : List α × List (List Nat)), rIter ν most k start a = some st → ∀ r ∈ st.2, r.length = k ∧ ∀ y ∈ r, y < st.1.length
  | 0, st, e => by simp [rIter] at e; subst e; simp
  | a + 1, st, e => by
    simp only [rIter] at e
    cases h : rIter ν most k start a with
    | none => rw [h] at e; cases e
    | some st' =>
      have ih := rIter_rowsok ν most k start a st' h
      rw [h] at e
      simp only [Option.bind_some] at e
      split at e
      · next x hx =>
        cases hr : rRow ν most x st'.1 k with
        | none => rw [hr] at e; cases e
        | some q =>
          rw [hr] at e
          simp only [Option.map_some, Option.some.injEq] at e
          subst e
          have l1 := rRow_len ν most x st'.1 k q hr
          have l2 := rRow_lt ν most x st'.1 k q hr
          intro r hr'
          rcases List.mem_append.1 hr' with q1 | q1
          · have := ih r q1
            exact ⟨this.1, fun y hy => by have := this.2 y hy; simp only; omega⟩
          · rw [List.mem_singleton.1 q1]; exact ⟨l1.1, l2⟩
      · simp only [Option.some.injEq] at e; subst e; exact ih
theorem LstOut.wf {m M : Dfa} (hm : m.wf) (l : LstOut m M) : M.wf ∧ M.k = m.k ∧ M.next.length ≤ m.next.length := by
  obtain ⟨J, F, keys, rows, a1, a2, a3, a4, a5, rfl⟩ := l
  have hInvS : ∀ x i, x < (refI m J).2 → i < m.k → stepC m (refI m J).1 (someF m (refI m J).1 (refI m J).2 m.next.length) x i < (refI m J).2 := by
    intro x i hx hi
    have h1 : x < (someF m (refI m J).1 (refI m J).2 m.next.length).length := by rw [someF_len]; exact hx
    have h2 := someF_lt m (refI m J).1 (refI m J).2 _ _ (Nat.le_refl _) hm.n1 _ (List.getElem_mem h1)
    have h3 : i < m.next[(someF m (refI m J).1 (refI m J).2 m.next.length)[x]].length := by rw [hm.rl _ (List.getElem_mem h2)]; exact hi
    have h4 := hm.lt _ (List.getElem_mem h2) _ (List.getElem_mem h3)
    have : stepC m (refI m J).1 (someF m (refI m J).1 (refI m J).2 m.next.length) x i = (refI m J).1.getD m.next[(someF m (refI m J).1 (refI m J).2 m.next.length)[x]][i] 0 := by simp [stepC, h1, h2, h3]
    rw [this]
    exact refI_lt m J _ h4
  have hInv0 : (refI m J).1.getD 0 0 < (refI m J).2 := refI_lt m J 0 (by have := hm.n1; omega)
  obtain ⟨q1, q2⟩ := rIter_inv _ (-1) (· < (refI m J).2) m.k hInvS _ hInv0 F _ a3
  have hkl := nodup_lt _ keys q1 q2
  have hrl := rIter_rows _ _ _ _ F _ a5 a3
  have hro := rIter_rowsok _ _ _ _ F _ a3
  have h1 := rIter_len _ _ _ _ F _ a3
  have h2 := refI_le m J
  have h3 := hm.nmax
  simp only at hrl hro h1
  refine ⟨⟨hm.k1, hm.k4, by simp only; omega, by simp only; omega, by simp; omega, fun r hr => (hro r hr).1, fun r hr x hx => ?_⟩, rfl, by simp only; omega⟩
  have := (hro r hr).2 x hx
  simp only at this ⊢; omega
theorem least_wf {m : Dfa} (hm : m.wf) : (leastF m).wf := (LstOut.wf hm (lst_ok hm)).1
theorem least_k {m : Dfa} (hm : m.wf) : (leastF m).k = m.k := (LstOut.wf hm (lst_ok hm)).2.1
theorem least_n {m : Dfa} (hm : m.wf) : (leastF m).next.length ≤ m.next.length := (LstOut.wf hm (lst_ok hm)).2.2

/-- A machine as an automaton, and back. -/
theorem w_of (m : Dfa) : Pure Try.prog 66 [m.av] m.av := by
  refine pure_of (acalls_of Try.func66 rfl Try.call66 (by kernel_rfl) (by show _ ≤ (10 : Nat); simp) ?_)
  simp [Dfa.av]
  intro b1 hb1
  simp
  intro b2 hb2
  simp at hb2
  simp [hb2]
  exact finA_self rfl
theorem w_auto (m : Dfa) : Pure Try.prog 88 [m.av] m.av := by
  refine pure_of (acalls_of Try.func88 rfl Try.call88 (by kernel_rfl) (by show _ ≤ (10 : Nat); simp) ?_)
  simp [Dfa.av]
  intro b1 hb1
  simp
  intro b2 hb2
  simp at hb2
  simp [hb2]
  exact finA_self rfl
def noAuto : AV := .agg [.int .i64 0, .nilsl, .nilsl]
theorem w_keptT (m : Dfa) (hm : m.wf) : Pure Try.prog 70 [m.av, .bool true] (if 64 < (leastF m).next.length then .tup [noAuto, .int .i64 21] else .tup [(leastF m).av, .int .i64 0]) := by
  refine pure_of (acalls_of Try.func70 rfl Try.call70 (by kernel_rfl) (by show _ ≤ (18 : Nat); simp) ?_)
  have c1 := w_leastP hm
  have c2 := w_auto (leastF m)
  simp only [Dfa.av] at c1 c2 ⊢
  simp
  intro b2 hb2
  simp
  intro b4 hb4
  simp at hb4
  simp [hb4]
  refine c1.use ?_
  simp [hb4, nrowsA]
  by_cases h : 64 < (leastF m).next.length
  · have hI : (64 : Int) < (leastF m).next.length := by omega
    simp [h, hI, hb4]
    exact finA_self rfl
  · have hI : ¬ (64 : Int) < (leastF m).next.length := by omega
    simp [h, hI, hb4]
    refine c2.use ?_
    simp [hb4]
    exact finA_self rfl
theorem w_keptF (m : AV) (hm : m.fit = true) : Pure Try.prog 70 [m, .bool false] (.tup [noAuto, .int .i64 21]) := by
  refine pure_of (acalls_of Try.func70 rfl Try.call70 (by kernel_rfl) (by show _ ≤ (18 : Nat); simp) ?_)
  simp [hm]
  intro b2 hb2
  simp
  intro b4 hb4
  simp at hb4
  simp [hb4]
  exact finA_self rfl
/-- A letter's byte. -/
def ltr (i : Nat) : UInt8 := UInt8.ofNat (97 + i)
theorem w_letter (i : Nat) (hi : i < 4) : Pure Try.prog 124 [.int .i64 i] (.str [ltr i]) := by
  refine pure_of (acalls_of Try.func124 rfl Try.call124 (by kernel_rfl) (by show _ ≤ (7 : Nat); simp) ?_)
  simp
  have h1 : IntKind.i64.wrap (97 + (i : Int)) = 97 + i := wrap_i64 (by omega) (by omega)
  have h2 : IntKind.i32.wrap (97 + (i : Int)) = 97 + i := wrap_i32 (by omega) (by omega)
  rw [h1, h2]
  refine finA_self ?_
  have : i = 0 ∨ i = 1 ∨ i = 2 ∨ i = 3 := by omega
  rcases this with rfl | rfl | rfl | rfl <;> rfl
end Go.Proofs
