/-
  Pair: the parts into which a graph falls without some points.
-/
import Derived.Test.YtkdhgablioljnaaPaG
set_option linter.unusedSimpArgs false
set_option linter.unusedVariables false
set_option linter.unusedSectionVars false
namespace Go.Proofs
open Go Go.AH
set_option maxRecDepth 10000
set_option maxHeartbeats 4000000

section
variable (J : Int → Int → Bool) (S : Int → Bool) (n : Nat)
def growB (v : Int) : Nat → List Int → List Int
  | 0, l => l
  | b + 1, l => if J v b && !S b && !(growB v b l).contains (b : Int) then growB v b l ++ [(b : Int)] else growB v b l
def stage (a : Int) : Nat → List Int
  | 0 => [a]
  | k + 1 => match (stage a k)[k]? with
    | some v => growB J S v n (stage a k)
    | none => stage a k
def partB (a : Int) : List Int := stage J S n a n
def fallsB : Nat → List (List Int)
  | 0 => []
  | a + 1 => if S a || (fallsB a).flatten.contains (a : Int) then fallsB a else fallsB a ++ [partB J S n a]
inductive Con : Int → Int → Prop
  | refl (a : Int) : Con a a
  | step {a b : Int} (c : Nat) : Con a b → c < n → J b c = true → S c = false → Con a c
end
section
variable {J : Int → Int → Bool} {S : Int → Bool} {n : Nat}
theorem Con.trans {a b c : Int} (h : Con J S n a b) (q : Con J S n b c) : Con J S n a c := by
  induction q with
  | refl => exact h
  | step c _ h1 h2 h3 ih => exact .step c ih h1 h2 h3
theorem Con.ok {a b : Int} (h : Con J S n a b) (ha : ∃ a' : Nat, a = a' ∧ a' < n ∧ S a' = false) : ∃ b' : Nat, b = b' ∧ b' < n ∧ S b' = false := by
  cases h with
  | refl => exact ha
  | step c _ h1 h2 h3 => exact ⟨c, rfl, h1, h3⟩
theorem Con.symm (hJ : ∀ a b, J a b = J b a) {a b : Int} (h : Con J S n a b) (ha : ∃ a' : Nat, a = a' ∧ a' < n ∧ S a' = false) : Con J S n b a := by
  induction h with
  | refl => exact .refl _
  | @step b c h h1 h2 h3 ih =>
    obtain ⟨b', rfl, q1, q2⟩ := h.ok ha
    exact Con.trans (.step b' (.refl _) q1 (by rw [hJ]; exact h2) q2) ih
theorem growB_sub {v : Int} : ∀ (b : Nat) (l : List Int), ∃ r, growB J S v b l = l ++ r
  | 0, l => ⟨[], by simp [growB]⟩
  | b + 1, l => by
    obtain ⟨r, hr⟩ := growB_sub (v := v) b l
    unfold growB
    split
    · exact ⟨r ++ [(b : Int)], by rw [hr, List.append_assoc]⟩
    · exact ⟨r, hr⟩
theorem growB_mem {v : Int} : ∀ (b : Nat) (l : List Int) (x : Int), x ∈ growB J S v b l ↔ x ∈ l ∨ ∃ c : Nat, c < b ∧ x = c ∧ J v c = true ∧ S c = false
  | 0, l, x => by simp [growB]
  | b + 1, l, x => by
    have ih := growB_mem (v := v) b l
    unfold growB
    split
    · next h =>
      simp only [Bool.and_eq_true, Bool.not_eq_true'] at h
      rw [List.mem_append, ih, List.mem_singleton]
      constructor
      · rintro ((q | ⟨c, q1, q2⟩) | q)
        · exact .inl q
        · exact .inr ⟨c, by omega, q2⟩
        · exact .inr ⟨b, by omega, q, h.1.1, h.1.2⟩
      · rintro (q | ⟨c, q1, q2, q3⟩)
        · exact .inl (.inl q)
        · by_cases e : c = b
          · subst e; exact .inr q2
          · exact .inl (.inr ⟨c, by omega, q2, q3⟩)
    · next h =>
      rw [ih]
      constructor
      · rintro (q | ⟨c, q1, q2⟩)
        · exact .inl q
        · exact .inr ⟨c, by omega, q2⟩
      · rintro (q | ⟨c, q1, q2, q3, q4⟩)
        · exact .inl q
        · by_cases e : c = b
          · subst e
            simp only [Bool.and_eq_true, Bool.not_eq_true', q3, q4, true_and] at h
            have : ((c : Int)) ∈ growB J S v c l := by simpa using h
            rw [q2]; exact (ih _).1 this
          · exact .inr ⟨c, by omega, q2, q3, q4⟩
theorem growB_nd {v : Int} : ∀ (b : Nat) (l : List Int), l.Nodup → (growB J S v b l).Nodup
  | 0, l, h => by simpa [growB] using h
  | b + 1, l, h => by
    have ih := growB_nd (v := v) b l h
    unfold growB
    split
    · next q =>
      simp only [Bool.and_eq_true, Bool.not_eq_true'] at q
      rw [List.nodup_append]
      refine ⟨ih, by simp, fun x hx y hy => ?_⟩
      simp only [List.mem_singleton] at hy
      subst hy
      intro e
      subst e
      have : (growB J S v b l).contains (b : Int) = true := by simpa using hx
      rw [this] at q
      exact absurd q.2 (by simp)
    · exact ih
structure StOk (J : Int → Int → Bool) (S : Int → Bool) (n : Nat) (a : Int) (l : List Int) : Prop where
  nd : l.Nodup
  mem : a ∈ l
  con : ∀ x ∈ l, Con J S n a x
theorem StOk.le {a : Nat} (ha : a < n) {l : List Int} (h : StOk J S n a l) (hS : S a = false) : l.length ≤ n := by
  have := nodup_sub_len l ((List.range n).map fun i : Nat => (i : Int)) h.nd fun x hx => by
    obtain ⟨x', rfl, q, _⟩ := (h.con x hx).ok ⟨a, rfl, ha, hS⟩
    exact List.mem_map.2 ⟨x', List.mem_range.2 q, rfl⟩
  simpa using this
theorem stage_some {a : Int} {k : Nat} {v : Int} (h : (stage J S n a k)[k]? = some v) : stage J S n a (k + 1) = growB J S v n (stage J S n a k) := by
  show (match (stage J S n a k)[k]? with | some v => growB J S v n (stage J S n a k) | none => stage J S n a k) = _
  rw [h]
theorem stage_none {a : Int} {k : Nat} (h : (stage J S n a k)[k]? = none) : stage J S n a (k + 1) = stage J S n a k := by
  show (match (stage J S n a k)[k]? with | some v => growB J S v n (stage J S n a k) | none => stage J S n a k) = _
  rw [h]
theorem stage_ok (a : Int) : ∀ k, StOk J S n a (stage J S n a k)
  | 0 => ⟨by simp [stage], by simp [stage], fun x hx => by simp [stage] at hx; subst hx; exact .refl _⟩
  | k + 1 => by
    have ih := stage_ok a k
    unfold stage
    split
    · next v hv =>
      refine ⟨growB_nd _ _ ih.nd, (growB_mem _ _ _).2 (.inl ih.mem), fun x hx => ?_⟩
      rcases (growB_mem _ _ _).1 hx with q | ⟨c, q1, q2, q3, q4⟩
      · exact ih.con x q
      · rw [q2]; exact .step c (ih.con v (List.mem_of_getElem? hv)) q1 q3 q4
    · exact ih
theorem stage_closed (a : Int) : ∀ (k i : Nat) (v : Int), i < k → (stage J S n a k)[i]? = some v → ∀ c : Nat, c < n → J v c = true → S c = false → (c : Int) ∈ stage J S n a k
  | 0, i, v, h, _ => absurd h (by omega)
  | k + 1, i, v, h, hv => by
    intro c hc h1 h2
    have ih := stage_closed a k
    cases hw : (stage J S n a k)[k]? with
    | some w =>
      rw [stage_some hw] at hv ⊢
      obtain ⟨r, hr⟩ := growB_sub (J := J) (S := S) (v := w) n (stage J S n a k)
      have hk : k < (stage J S n a k).length := by
        rcases Nat.lt_or_ge k (stage J S n a k).length with q | q
        · exact q
        · rw [List.getElem?_eq_none q] at hw; cases hw
      rw [hr, List.getElem?_append_left (by omega)] at hv
      rw [growB_mem]
      by_cases e : i = k
      · subst e
        rw [hw] at hv
        cases hv
        exact .inr ⟨c, hc, rfl, h1, h2⟩
      · exact .inl (ih i v (by omega) hv c hc h1 h2)
    | none =>
      rw [stage_none hw] at hv ⊢
      by_cases e : i = k
      · subst e; rw [hw] at hv; cases hv
      · exact ih i v (by omega) hv c hc h1 h2
theorem partB_mem {a : Nat} (ha : a < n) (hS : S a = false) (x : Int) : x ∈ partB J S n a ↔ Con J S n a x := by
  have ok := stage_ok (J := J) (S := S) (n := n) (a : Int) n
  constructor
  · exact ok.con x
  · intro h
    induction h with
    | refl => exact ok.mem
    | step c h h1 h2 h3 ih =>
      obtain ⟨i, hi, e⟩ := List.getElem_of_mem ih
      have hl := ok.le ha hS
      unfold partB at hi
      exact stage_closed (a : Int) n i _ (by omega) (by rw [List.getElem?_eq_getElem hi]; exact congrArg some e) c h1 h2 h3
theorem stage_full (a : Int) {k : Nat} (h : (stage J S n a k).length ≤ k) : ∀ j, stage J S n a (k + j) = stage J S n a k
  | 0 => rfl
  | j + 1 => by
    have ih := stage_full a h j
    show (match (stage J S n a (k + j))[k + j]? with | some v => growB J S v n (stage J S n a (k + j)) | none => stage J S n a (k + j)) = _
    rw [ih, List.getElem?_eq_none (by omega)]
theorem partB_of {a k : Nat} (hk : k ≤ n) (h : (stage J S n a k).length ≤ k) : stage J S n a k = partB J S n a := by
  have := stage_full (J := J) (S := S) (n := n) (a : Int) h (n - k)
  rw [show k + (n - k) = n from by omega] at this
  exact this.symm
theorem fallsB_mem : ∀ k, k ≤ n → ∀ x, x ∈ (fallsB J S n k).flatten ↔ ∃ a : Nat, a < k ∧ S a = false ∧ Con J S n a x
  | 0, _, x => by simp [fallsB]
  | k + 1, hk, x => by
    have ih := fallsB_mem k (by omega)
    unfold fallsB
    split
    · next h =>
      rw [ih]
      constructor
      · rintro ⟨a, q1, q2⟩; exact ⟨a, by omega, q2⟩
      · rintro ⟨a, q1, q2, q3⟩
        by_cases e : a = k
        · subst e
          rw [q2, Bool.false_or] at h
          have h : ((a : Int)) ∈ (fallsB J S n a).flatten := by simpa using h
          obtain ⟨a', p1, p2, p3⟩ := (ih _).1 h
          exact ⟨a', p1, p2, p3.trans q3⟩
        · exact ⟨a, by omega, q2, q3⟩
    · next h =>
      rw [List.flatten_append, List.mem_append, ih]
      have hSk : S k = false := by
        cases e : S k with
        | false => rfl
        | true => rw [e] at h; simp at h
      simp only [List.flatten_cons, List.flatten_nil, List.append_nil]
      rw [partB_mem (by omega) hSk]
      constructor
      · rintro (⟨a, q1, q2⟩ | q)
        · exact ⟨a, by omega, q2⟩
        · exact ⟨k, by omega, hSk, q⟩
      · rintro ⟨a, q1, q2, q3⟩
        by_cases e : a = k
        · subst e; exact .inr q3
        · exact .inl ⟨a, by omega, q2, q3⟩
/-- The lengths of the parts that are odd. -/
def oddsB (ps : List (List Int)) : Nat := (ps.map fun p => p.length % 2).sum
theorem oddsB_snoc {ps : List (List Int)} {p : List Int} : oddsB (ps ++ [p]) = oddsB ps + p.length % 2 := by simp [oddsB]
theorem oddsB_le {ps : List (List Int)} : oddsB ps ≤ ps.length := by
  induction ps with
  | nil => simp [oddsB]
  | cons p r ih =>
    simp only [oddsB, List.map_cons, List.sum_cons, List.length_cons] at ih ⊢
    omega
theorem fallsB_len : ∀ k, (fallsB J S n k).length ≤ k
  | 0 => by simp [fallsB]
  | k + 1 => by
    have := fallsB_len k
    unfold fallsB
    split
    · omega
    · simp; omega
theorem fallsB_part : ∀ k, k ≤ n → ∀ p ∈ fallsB J S n k, p ≠ [] ∧ p.length ≤ n
  | 0, _, p, h => by simp [fallsB] at h
  | k + 1, hk, p, h => by
    have ih := fallsB_part k (by omega)
    unfold fallsB at h
    split at h
    · exact ih p h
    · next hh =>
      rcases List.mem_append.1 h with q | q
      · exact ih p q
      · simp only [List.mem_singleton] at q
        subst q
        have hSk : S k = false := by
          cases e : S k with
          | false => rfl
          | true => rw [e] at hh; simp at hh
        have ok := stage_ok (J := J) (S := S) (n := n) (k : Int) n
        exact ⟨fun e => (List.ne_nil_of_mem ok.mem) e, ok.le (by omega) hSk⟩
/-- Any list that has just a part's points, each once, has as many. -/
theorem partB_len {a : Nat} (ha : a < n) (hS : S a = false) {q : List Int} (hq : q.Nodup) (hm : ∀ x, x ∈ q ↔ Con J S n a x) : q.length = (partB J S n a).length := by
  have ok := stage_ok (J := J) (S := S) (n := n) (a : Int) n
  have h1 := nodup_sub_len q (partB J S n a) hq fun x hx => (partB_mem ha hS x).2 ((hm x).1 hx)
  have h2 := nodup_sub_len (partB J S n a) q ok.nd fun x hx => (hm x).2 ((partB_mem ha hS x).1 hx)
  omega
end
end Go.Proofs
