/-
  Pair: the reference's search for the first best assignment: what is left behind a row of posts.
-/
import Derived.Test.YtkdhgablioljnaaPbR
set_option linter.unusedSimpArgs false
set_option linter.unusedVariables false
set_option linter.unusedSectionVars false
namespace Go.Proofs
open Go Go.AH
set_option maxRecDepth 10000
set_option maxHeartbeats 4000000

/-- What is free: the posts below n that are not taken. -/
def frN (n : Nat) (T : List Int) : List Nat := (List.range n).filter fun k => !T.contains (k : Int)
/-- The offer's rows from m on, at the posts of a list. -/
def subC (C : List (List Int)) (m : Nat) (F : List Nat) : List (List Int) := (C.drop m).map fun r => F.map fun k => lF r k
theorem wo_sub {C : List (List Int)} {m j : Nat} {F : List Nat} : wo (subC C m F) j = subC C (m + 1) (F.eraseIdx j) := by
  unfold wo subC
  rw [← List.map_drop, List.drop_drop, List.map_map]
  refine List.map_congr_left fun r _ => ?_
  simp only [Function.comp]
  rw [List.eraseIdx_eq_take_drop_succ, List.eraseIdx_eq_take_drop_succ, List.map_append, List.map_take, List.map_drop]
theorem frN_nd {n : Nat} {T : List Int} : (frN n T).Nodup := List.Pairwise.filter _ List.nodup_range
theorem frN_mem {n : Nat} {T : List Int} {k : Nat} : k ∈ frN n T ↔ k < n ∧ (k : Int) ∉ T := by
  unfold frN; simp
theorem filter_erase {α : Type} [DecidableEq α] {x : α} : ∀ {l : List α}, l.Nodup → l.filter (fun y => !decide (y = x)) = l.erase x
  | [], _ => rfl
  | y :: l, h => by
    rw [List.nodup_cons] at h
    by_cases e : y = x
    · subst e
      rw [List.erase_cons_head, List.filter_cons_of_neg (by simp)]
      refine List.filter_eq_self.2 fun z hz => ?_
      have : z ≠ y := fun q => h.1 (q ▸ hz)
      simp [this]
    · rw [List.filter_cons_of_pos (by simp [e]), filter_erase h.2, List.erase_cons_tail (by simpa using e)]
theorem erase_idx {l : List Nat} (h : l.Nodup) {j x : Nat} (e : l[j]? = some x) : l.erase x = l.eraseIdx j := by
  induction l generalizing j with
  | nil => simp at e
  | cons y l ih =>
    rw [List.nodup_cons] at h
    cases j with
    | zero =>
      simp at e
      subst e; simp
    | succ j =>
      simp at e
      have hx : x ∈ l := List.mem_of_getElem? e
      have : y ≠ x := fun q => h.1 (q ▸ hx)
      rw [List.erase_cons_tail (by simpa using this), ih h.2 e]; rfl
theorem frN_snoc {n : Nat} {T : List Int} {j k : Nat} (e : (frN n T)[j]? = some k) : frN n (T ++ [(k : Int)]) = (frN n T).eraseIdx j := by
  rw [← erase_idx frN_nd e, ← filter_erase frN_nd]
  unfold frN
  rw [List.filter_filter]
  refine List.filter_congr fun y _ => ?_
  have h1 : (T ++ [(k : Int)]).contains (y : Int) = (T.contains (y : Int) || decide (y = k)) := by
    rw [Bool.eq_iff_iff]
    simp
    constructor
    · rintro (h | h)
      · exact .inl h
      · exact .inr (by omega)
    · rintro (h | h)
      · exact .inl h
      · exact .inr (by omega)
  rw [h1, Bool.not_or, Bool.and_comm]
theorem frN_len {n : Nat} {T : List Int} (hT : T.Nodup) (hr : ∀ x ∈ T, 0 ≤ x ∧ x < n) : (frN n T).length + T.length = n := by
  have h1 := nodup_sub_len ((frN n T).map (fun k : Nat => (k : Int)) ++ T) ((List.range n).map fun k : Nat => (k : Int)) (by
    rw [List.nodup_append]
    refine ⟨nodup_map frN_nd (fun x _ y _ e => by omega), hT, fun x hx y hy e => ?_⟩
    obtain ⟨k, hk, rfl⟩ := List.mem_map.1 hx
    exact (frN_mem.1 hk).2 (e ▸ hy)) (fun x hx => by
    rcases List.mem_append.1 hx with h | h
    · obtain ⟨k, hk, rfl⟩ := List.mem_map.1 h
      exact List.mem_map.2 ⟨k, List.mem_range.2 (frN_mem.1 hk).1, rfl⟩
    · have := hr x h
      exact List.mem_map.2 ⟨x.toNat, List.mem_range.2 (by omega), by omega⟩)
  have h2 := nodup_sub_len ((List.range n).map fun k : Nat => (k : Int)) ((frN n T).map (fun k : Nat => (k : Int)) ++ T) (nodup_map List.nodup_range (fun x _ y _ e => by omega)) (fun x hx => by
    obtain ⟨k, hk, rfl⟩ := List.mem_map.1 hx
    by_cases q : (k : Int) ∈ T
    · exact List.mem_append.2 (.inr q)
    · exact List.mem_append.2 (.inl (List.mem_map.2 ⟨k, frN_mem.2 ⟨List.mem_range.1 hk, q⟩, rfl⟩)))
  simp at h1 h2
  omega
theorem subC_ok {C : List (List Int)} {n m : Nat} {F : List Nat} (O : OffOk C n) (hF : F.length = n - m) (hm : m < n) (hk : ∀ k ∈ F, k < n) : OffOk (subC C m F) (n - m) := by
  refine ⟨by simp [subC, O.len], ⟨by omega, by have := O.n1; omega⟩, fun r hr => ?_, fun r hr x hx => ?_⟩
  · unfold subC at hr
    obtain ⟨r', _, rfl⟩ := List.mem_map.1 hr
    simp [hF]
  · unfold subC at hr
    obtain ⟨r', h, rfl⟩ := List.mem_map.1 hr
    obtain ⟨k, hkF, rfl⟩ := List.mem_map.1 hx
    have hr' := List.mem_of_mem_drop h
    have hl := O.rows r' hr'
    have := hk k hkF
    exact O.sm r' hr' _ (List.mem_of_getElem? (lF_get (by omega)))
end Go.Proofs
