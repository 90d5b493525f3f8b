/-
  Pair: the greedy choice of a best assignment.
-/
import Derived.Test.YtkdhgablioljnaaPbM
set_option linter.unusedSimpArgs false
set_option linter.unusedVariables false
set_option linter.unusedSectionVars false
namespace Go.Proofs
open Go Go.AH
set_option maxRecDepth 10000
set_option maxHeartbeats 4000000

def skp (j k : Nat) : Nat := if k < j then k else k + 1
def usk (j k : Nat) : Nat := if k < j then k else k - 1
theorem skp_usk {j k : Nat} (h : k ≠ j) : skp j (usk j k) = k := by
  unfold skp usk
  by_cases q : k < j
  · rw [if_pos q, if_pos q]
  · rw [if_neg q, if_neg (by omega)]; omega
theorem usk_skp {j k : Nat} : usk j (skp j k) = k := by
  unfold skp usk
  by_cases q : k < j
  · rw [if_pos q, if_pos q]
  · rw [if_neg q, if_neg (by omega)]; omega
theorem skp_ne {j k : Nat} : skp j k ≠ j := by unfold skp; split <;> omega
theorem skp_lt {j k n : Nat} (h : k < n) : skp j k < n + 1 := by unfold skp; split <;> omega
theorem usk_lt {j k n : Nat} (hj : j < n + 1) (h : k < n + 1) (hne : k ≠ j) : usk j k < n := by unfold usk; split <;> omega
theorem smF_head {f : Nat → Int} : ∀ {n : Nat}, smF f (n + 1) = f 0 + smF (fun i => f (i + 1)) n
  | 0 => by simp [smF]
  | n + 1 => by
    have := smF_head (f := f) (n := n)
    simp only [smF] at this ⊢
    omega
theorem wo_get {C : List (List Int)} {n j r k : Nat} (O : OffOk C (n + 1)) (hr : r < n) : cF (wo C j) r k = cF C (r + 1) (skp j k) := by
  obtain ⟨row, h1, h2, _⟩ := O.row (i := r + 1) (by omega)
  unfold cF
  have e : (wo C j)[r]? = some (row.eraseIdx j) := by
    unfold wo
    rw [List.getElem?_map, List.getElem?_drop, show 1 + r = r + 1 from by omega, h1]; rfl
  rw [e, h1]
  simp only [Option.getD_some]
  rw [List.getElem?_eraseIdx]
  unfold skp
  split <;> rfl
theorem aW_cons {C : List (List Int)} {n j : Nat} (O : OffOk C (n + 1)) {q : Nat → Nat} {q' : Nat → Nat} (h0 : q 0 = j) (hs : ∀ r, r < n → q (r + 1) = skp j (q' r)) : aW (cF C) q (n + 1) = cF C 0 j + aW (cF (wo C j)) q' n := by
  unfold aW
  rw [smF_head, h0]
  congr 1
  exact smF_congr fun r hr => by rw [hs r hr, wo_get O hr]
theorem asg_cons {n j : Nat} (hj : j < n + 1) {q' : Nat → Nat} (A : Asg n q') : Asg (n + 1) (fun r => match r with | 0 => j | r + 1 => skp j (q' r)) := by
  refine ⟨fun r hr => ?_, fun r s hr hs e => ?_⟩
  · cases r with
    | zero => exact hj
    | succ r => exact skp_lt (A.lt r (by omega))
  · cases r with
    | zero =>
      cases s with
      | zero => rfl
      | succ s => exact absurd e.symm skp_ne
    | succ r =>
      cases s with
      | zero => exact absurd e skp_ne
      | succ s =>
        have e : skp j (q' r) = skp j (q' s) := e
        have := congrArg (usk j) e
        rw [usk_skp, usk_skp] at this
        rw [A.inj r s (by omega) (by omega) this]
theorem asg_tail {n : Nat} {q : Nat → Nat} (A : Asg (n + 1) q) : Asg n (fun r => usk (q 0) (q (r + 1))) ∧ ∀ r, r < n → q (r + 1) = skp (q 0) (usk (q 0) (q (r + 1))) := by
  have ne : ∀ r, r < n → q (r + 1) ≠ q 0 := fun r hr e => by
    have := A.inj (r + 1) 0 (by omega) (by omega) e; omega
  refine ⟨⟨fun r hr => usk_lt (A.lt 0 (by omega)) (A.lt (r + 1) (by omega)) (ne r hr), fun r s hr hs e => ?_⟩, fun r hr => (skp_usk (ne r hr)).symm⟩
  have e : usk (q 0) (q (r + 1)) = usk (q 0) (q (s + 1)) := e
  have := congrArg (skp (q 0)) e
  rw [skp_usk (ne r hr), skp_usk (ne s hs)] at this
  have := A.inj (r + 1) (s + 1) (by omega) (by omega) this
  omega
theorem max_has {P : Int → Prop} {B : Int} : ∀ (k : Nat) (w : Int), (B - w).toNat ≤ k → P w → (∀ x, P x → x ≤ B) → ∃ x, P x ∧ ∀ y, P y → y ≤ x
  | 0, w, h, hw, hb => ⟨w, hw, fun y hy => by have := hb y hy; have := hb w hw; omega⟩
  | k + 1, w, h, hw, hb => by
    by_cases q : ∀ y, P y → y ≤ w
    · exact ⟨w, hw, q⟩
    · obtain ⟨y, hy⟩ := Classical.not_forall.1 q
      obtain ⟨h1, h2⟩ := Classical.not_imp.1 hy
      have := hb y h1
      exact max_has k y (by omega) h1 hb
theorem smF_up {f : Nat → Int} {B : Int} : ∀ {n : Nat}, (∀ i, i < n → f i ≤ B) → smF f n ≤ smF (fun _ => B) n := fun h => smF_le2 h
/-- Every offer has a best assignment. -/
theorem opt_any {n : Nat} {c : Nat → Nat → Int} (hc : ∀ r j, r < n → j < n → c r j ≤ 1000000) : OptIs n c (optV n c) := by
  obtain ⟨w, ⟨q, hq, e⟩, hw⟩ := max_has (P := fun w => ∃ q, Asg n q ∧ aW c q n = w) (B := smF (fun _ => 1000000) n) _ (aW c id n) (Nat.le_refl _) ⟨id, ⟨fun r h => h, fun r s _ _ e => e⟩, rfl⟩ (fun x hx => by
    obtain ⟨q, hq, rfl⟩ := hx
    exact smF_up fun i hi => hc i (q i) hi (hq.lt i hi))
  have h : OptIs n c w := ⟨⟨q, hq, e⟩, fun q hq => hw _ ⟨q, hq, rfl⟩⟩
  rw [h.val]; exact h
theorem opt_has (C : List (List Int)) (n : Nat) (h : n = 0 ∨ OffOk C n) : OptIs n (cF C) (optV n (cF C)) := by
  rcases h with rfl | O
  · rw [opt_nil.val]; exact opt_nil
  · exact opt_any fun r j hr hj => (O.c r j hr hj).2
theorem wo_or {C : List (List Int)} {n j : Nat} (O : OffOk C (n + 1)) (hj : j < n + 1) : n = 0 ∨ OffOk (wo C j) n := by
  by_cases h : n = 0
  · exact .inl h
  · exact .inr (wo_ok O (by omega) hj)
/-- Some post of the first person leaves a best assignment of the rest. -/
theorem opt_step {C : List (List Int)} {n : Nat} (O : OffOk C (n + 1)) : ∃ j, j < n + 1 ∧ cF C 0 j + optV n (cF (wo C j)) = optV (n + 1) (cF C) := by
  have hW := opt_has C (n + 1) (.inr O)
  obtain ⟨q, hq, e⟩ := hW.has
  obtain ⟨hq', hs⟩ := asg_tail hq
  have hj := hq.lt 0 (by omega)
  have hR := opt_has (wo C (q 0)) n (wo_or O hj)
  have e1 := aW_cons O (q := q) (q' := fun r => usk (q 0) (q (r + 1))) rfl hs
  have h1 := hR.all _ hq'
  obtain ⟨q2, hq2, e2⟩ := hR.has
  have hA := asg_cons hj hq2
  have e3 := aW_cons (j := q 0) O (q := fun r => match r with | 0 => q 0 | r + 1 => skp (q 0) (q2 r)) (q' := q2) rfl (fun r _ => rfl)
  have h2 := hW.all _ hA
  exact ⟨q 0, hj, by omega⟩
open Classical in
noncomputable def fJ (n : Nat) (C : List (List Int)) : Nat := ((List.range (n + 1)).find? fun j => decide (cF C 0 j + optV n (cF (wo C j)) = optV (n + 1) (cF C))).getD 0
structure FJ (n : Nat) (C : List (List Int)) (j : Nat) : Prop where
  lt : j < n + 1
  eq : cF C 0 j + optV n (cF (wo C j)) = optV (n + 1) (cF C)
  first : ∀ k, k < j → ¬ cF C 0 k + optV n (cF (wo C k)) = optV (n + 1) (cF C)
theorem fJ_ok {C : List (List Int)} {n : Nat} (O : OffOk C (n + 1)) : FJ n C (fJ n C) := by
  obtain ⟨j0, hj0, e0⟩ := opt_step O
  unfold fJ
  cases h : (List.range (n + 1)).find? fun j => decide (cF C 0 j + optV n (cF (wo C j)) = optV (n + 1) (cF C)) with
  | none =>
    have := List.find?_eq_none.1 h j0 (List.mem_range.2 hj0)
    simp [e0] at this
  | some j =>
    obtain ⟨h1, l1, l2, h2, h3⟩ := List.find?_eq_some_iff_append.1 h
    have hm : j ∈ List.range (n + 1) := by rw [h2]; simp
    refine ⟨List.mem_range.1 hm, by simpa using h1, fun k hk q => ?_⟩
    have hjl : l1.length = j := by
      have h4 : (List.range (n + 1))[l1.length]? = some j := by rw [h2]; simp
      rw [List.getElem?_range (by have := congrArg List.length h2; simp at this; omega)] at h4
      exact Option.some.inj h4
    have hka : k ∈ l1 := by
      have h5 : (List.range (n + 1))[k]? = some k := List.getElem?_range (by have := List.mem_range.1 hm; simp only [Option.getD_some] at hk; omega)
      rw [h2, List.getElem?_append_left (by simp only [Option.getD_some] at hk; omega)] at h5
      exact List.mem_of_getElem? h5
    have := h3 k hka
    simp [q] at this
theorem FJ.uniq {C : List (List Int)} {n j k : Nat} (h : FJ n C j) (h' : FJ n C k) : j = k := by
  rcases Nat.lt_trichotomy j k with q | q | q
  · exact absurd h.eq (h'.first j q)
  · exact q
  · exact absurd h'.eq (h.first k q)
/-- The greedy choice, among what is free. -/
noncomputable def gB : Nat → List (List Int) → List Int → List Int
  | 0, _, _ => []
  | n + 1, C, free => lF free (fJ n C) :: gB n (wo C (fJ n C)) (free.eraseIdx (fJ n C))
theorem gB_succ {n : Nat} {C : List (List Int)} {free : List Int} : gB (n + 1) C free = lF free (fJ n C) :: gB n (wo C (fJ n C)) (free.eraseIdx (fJ n C)) := rfl
end Go.Proofs
