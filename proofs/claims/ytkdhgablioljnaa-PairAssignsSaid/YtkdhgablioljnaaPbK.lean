/-
  Pair: what assignments are worth.
-/
import Derived.Test.YtkdhgablioljnaaP6
set_option linter.unusedSimpArgs false
set_option linter.unusedVariables false
set_option linter.unusedSectionVars false
namespace Go.Proofs
open Go Go.AH
set_option maxRecDepth 10000
set_option maxHeartbeats 4000000

/-- An assignment: each person has a post, none two persons'. -/
structure Asg (n : Nat) (q : Nat → Nat) : Prop where
  lt : ∀ r, r < n → q r < n
  inj : ∀ r s, r < n → s < n → q r = q s → r = s
def aW (c : Nat → Nat → Int) (q : Nat → Nat) (n : Nat) : Int := smF (fun r => c r (q r)) n
theorem smF_congr {f g : Nat → Int} : ∀ {n : Nat}, (∀ i, i < n → f i = g i) → smF f n = smF g n
  | 0, _ => rfl
  | n + 1, h => by simp only [smF]; rw [smF_congr (fun i hi => h i (by omega)), h n (by omega)]
theorem smF_add {f g : Nat → Int} : ∀ {n : Nat}, smF (fun i => f i + g i) n = smF f n + smF g n
  | 0 => rfl
  | n + 1 => by simp only [smF]; rw [smF_add]; omega
theorem smF_le2 {f g : Nat → Int} : ∀ {n : Nat}, (∀ i, i < n → f i ≤ g i) → smF f n ≤ smF g n
  | 0, _ => Int.le_refl _
  | n + 1, h => by
    simp only [smF]
    have := smF_le2 (n := n) (fun i hi => h i (by omega))
    have := h n (by omega)
    omega
theorem smF_map {f : Nat → Int} {q : Nat → Nat} : ∀ {n : Nat}, smF (fun i => f (q i)) n = (((List.range n).map q).map f).sum
  | 0 => rfl
  | n + 1 => by simp only [smF]; rw [smF_map, List.range_succ]; simp [Int.add_comm]
theorem sum_erase {f : Nat → Int} : ∀ {m : List Nat} {x : Nat}, x ∈ m → (m.map f).sum = f x + ((m.erase x).map f).sum
  | y :: m, x, h => by
    by_cases e : y = x
    · subst e; simp
    · have hx : x ∈ m := (List.mem_cons.1 h).resolve_left (fun q => e q.symm)
      rw [List.erase_cons_tail (by simpa using e)]
      simp only [List.map_cons, List.sum_cons]
      rw [sum_erase hx]; omega
theorem sum_same {f : Nat → Int} : ∀ {l m : List Nat}, l.Nodup → m.Nodup → (∀ x ∈ l, x ∈ m) → l.length = m.length → (l.map f).sum = (m.map f).sum
  | [], m, _, _, _, e => by
    have : m = [] := List.eq_nil_of_length_eq_zero e.symm
    subst this; rfl
  | x :: l, m, h1, h2, h3, h4 => by
    have hx := h3 x List.mem_cons_self
    rw [List.nodup_cons] at h1
    rw [sum_erase hx, List.map_cons, List.sum_cons]
    rw [sum_same h1.2 (h2.erase x) (fun y hy => (List.mem_erase_of_ne (show y ≠ x from fun e => h1.1 (e ▸ hy))).2 (h3 y (List.mem_cons_of_mem _ hy))) (by rw [List.length_erase_of_mem hx]; simp at h4; omega)]
theorem Asg.sum {n : Nat} {q : Nat → Nat} (A : Asg n q) (f : Nat → Int) : smF (fun i => f (q i)) n = smF f n := by
  rw [smF_map, show smF f n = smF (fun i => f (id i)) n from rfl, smF_map]
  refine sum_same (nodup_map List.nodup_range fun x hx y hy e => A.inj x y (List.mem_range.1 hx) (List.mem_range.1 hy) e) (by simpa using List.nodup_range) (fun x hx => ?_) (by simp)
  obtain ⟨r, hr, rfl⟩ := List.mem_map.1 hx
  simpa using A.lt r (List.mem_range.1 hr)
/-- What the best assignment is worth. -/
structure OptIs (n : Nat) (c : Nat → Nat → Int) (w : Int) : Prop where
  has : ∃ q, Asg n q ∧ aW c q n = w
  all : ∀ q, Asg n q → aW c q n ≤ w
theorem OptIs.uniq {n : Nat} {c : Nat → Nat → Int} {w w' : Int} (h : OptIs n c w) (h' : OptIs n c w') : w = w' := by
  obtain ⟨q, hq, e⟩ := h.has
  obtain ⟨q', hq', e'⟩ := h'.has
  have := h.all q' hq'
  have := h'.all q hq
  omega
theorem prices_opt {n : Nat} {c : Nat → Nat → Int} {u v : Nat → Int} (feas : ∀ r j, r < n → j < n → c r j ≤ u r + v j) {q : Nat → Nat} (A : Asg n q) : aW c q n ≤ smF u n + smF v n := by
  have h1 : aW c q n ≤ smF (fun r => u r + v (q r)) n := smF_le2 fun r hr => feas r (q r) hr (A.lt r hr)
  rw [smF_add, A.sum v] at h1
  exact h1
theorem BestIs.asg {n : Nat} {c : Nat → Nat → Int} {u v p : Nat → Int} (B : BestIs n c u v p) : Asg n (fun r => (p r).toNat) ∧ aW c (fun r => (p r).toNat) n = smF u n + smF v n := by
  have A : Asg n (fun r => (p r).toNat) := by
    refine ⟨fun r hr => ?_, fun r s hr hs e => ?_⟩
    · obtain ⟨j, h1, h2, _⟩ := B.post r hr
      show (p r).toNat < n
      rw [h2]; omega
    · obtain ⟨j, h1, h2, _⟩ := B.post r hr
      obtain ⟨k, h3, h4, _⟩ := B.post s hs
      have e : (p r).toNat = (p s).toNat := e
      exact B.inj r s hr hs (by rw [h2, h4] at e ⊢; omega)
  refine ⟨A, ?_⟩
  have h1 : aW c (fun r => (p r).toNat) n = smF (fun r => u r + v ((p r).toNat)) n := smF_congr fun r hr => by
    obtain ⟨j, h1, h2, h3⟩ := B.post r hr
    show c r (p r).toNat = u r + v (p r).toNat
    rw [h2, Int.toNat_natCast]; exact h3.symm
  rw [h1, smF_add, A.sum v]
theorem BestIs.opt {n : Nat} {c : Nat → Nat → Int} {u v p : Nat → Int} (B : BestIs n c u v p) : OptIs n c (smF u n + smF v n) :=
  ⟨⟨_, B.asg.1, B.asg.2⟩, fun _ hq => prices_opt B.feas hq⟩
open Classical in
noncomputable def optV (n : Nat) (c : Nat → Nat → Int) : Int := if h : ∃ w, OptIs n c w then Classical.choose h else 0
theorem OptIs.val {n : Nat} {c : Nat → Nat → Int} {w : Int} (h : OptIs n c w) : optV n c = w := by
  have hx : ∃ w, OptIs n c w := ⟨w, h⟩
  unfold optV
  rw [dif_pos hx]
  exact (Classical.choose_spec hx).uniq h
theorem opt_nil {c : Nat → Nat → Int} : OptIs 0 c 0 := ⟨⟨id, ⟨fun r h => h, fun r s h => absurd h (Nat.not_lt_zero r)⟩, rfl⟩, fun q _ => Int.le_refl _⟩
/-- Prices that fit and add up to an assignment's worth are tight along it. -/
theorem tight_of {n : Nat} {c : Nat → Nat → Int} {u v : Nat → Int} (feas : ∀ r j, r < n → j < n → c r j ≤ u r + v j) {q : Nat → Nat} (A : Asg n q) (e : aW c q n = smF u n + smF v n) : ∀ r, r < n → u r + v (q r) = c r (q r) := by
  have h1 : smF (fun r => u r + v (q r)) n = smF u n + smF v n := by rw [smF_add, A.sum v]
  have : ∀ m, m ≤ n → smF (fun r => u r + v (q r)) m = smF (fun r => c r (q r)) m → ∀ r, r < m → u r + v (q r) = c r (q r) := by
    intro m
    induction m with
    | zero => intro _ _ r hr; exact absurd hr (Nat.not_lt_zero r)
    | succ m ih =>
      intro hm e r hr
      simp only [smF] at e
      have h2 := smF_le2 (n := m) (f := fun r => c r (q r)) (g := fun r => u r + v (q r)) (fun i hi => feas i (q i) (by omega) (A.lt i (by omega)))
      have h3 := feas m (q m) (by omega) (A.lt m (by omega))
      by_cases e2 : r = m
      · subst e2; omega
      · exact ih (by omega) (by omega) r (by omega)
  exact this n (Nat.le_refl n) (by rw [h1, ← e]; rfl)
end Go.Proofs
