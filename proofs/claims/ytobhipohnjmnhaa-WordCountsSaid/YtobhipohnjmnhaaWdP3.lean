/-
  Plain law: both counts are one.
-/
import Derived.Test.YtobhipohnjmnhaaWdP2
import Derived.Test.YtobhipohnjmnhaaWdR1
set_option linter.unusedSimpArgs false
set_option linter.unusedVariables false
set_option linter.unusedSectionVars false
namespace Go.Proofs
open Go Go.AH
set_option maxRecDepth 10000
set_option maxHeartbeats 4000000

def Cg (x y : Int) : Prop := ∃ q : Int, x = y + 18446744073709551616 * q
theorem Cg.refl (x : Int) : Cg x x := ⟨0, by omega⟩
theorem Cg.symm {x y : Int} (h : Cg x y) : Cg y x := by obtain ⟨q, rfl⟩ := h; exact ⟨-q, by omega⟩
theorem Cg.trans {x y z : Int} (h : Cg x y) (g : Cg y z) : Cg x z := by obtain ⟨q, rfl⟩ := h; obtain ⟨p, rfl⟩ := g; exact ⟨p + q, by omega⟩
theorem Cg.add {x y z w : Int} (h : Cg x y) (g : Cg z w) : Cg (x + z) (y + w) := by obtain ⟨q, rfl⟩ := h; obtain ⟨p, rfl⟩ := g; exact ⟨p + q, by omega⟩
theorem Cg.mul {x y : Int} (h : Cg x y) (z : Int) : Cg (x * z) (y * z) := by
  obtain ⟨q, rfl⟩ := h
  exact ⟨q * z, by rw [Int.add_mul, Int.mul_assoc]⟩
theorem Cg.w64 (x : Int) : Cg (w64 x) x := by
  have h : ∃ q, Go.Proofs.w64 x = x + 18446744073709551616 * q := by
    refine ⟨(Go.Proofs.w64 x - x) / 18446744073709551616, ?_⟩
    simp only [Go.Proofs.w64, IntKind.wrap, IntKind.bits, IntKind.signed]
    simp
    omega
  exact h
def inR (x : Int) : Prop := -9223372036854775808 ≤ x ∧ x ≤ 9223372036854775807
theorem inR_w64 (x : Int) : inR (w64 x) := by
  simp only [inR, w64, IntKind.wrap, IntKind.bits, IntKind.signed]
  simp
  omega
theorem Cg.eq {x y : Int} (h : Cg x y) (hx : inR x) (hy : inR y) : x = y := by
  obtain ⟨q, rfl⟩ := h
  simp only [inR] at hx hy
  omega

def sumN (g : Nat → Int) : Nat → Int
  | 0 => 0
  | n + 1 => sumN g n + g n
theorem sumN_same {g g' : Nat → Int} : ∀ n, (∀ i, i < n → g i = g' i) → sumN g n = sumN g' n
  | 0, _ => rfl
  | n + 1, h => by rw [sumN, sumN, sumN_same n fun i hi => h i (by omega), h n (by omega)]
theorem sumN_zero : ∀ n, sumN (fun _ => 0) n = 0
  | 0 => rfl
  | n + 1 => by rw [sumN, sumN_zero n]; rfl
theorem sumN_mul (g : Nat → Int) (x : Int) : ∀ n, x * sumN g n = sumN (fun i => x * g i) n
  | 0 => by simp [sumN]
  | n + 1 => by rw [sumN, sumN, Int.mul_add, sumN_mul g x n]
def dot (f : Nat → Int) (l : List Int) (n : Nat) : Int := sumN (fun t => l.getD t 0 * f t) n
theorem dot_set (f : Nat → Int) (l : List Int) (r : Nat) (y : Int) (hr : r < l.length) : ∀ n, dot f (l.set r y) n = dot f l n + if r < n then (y - l.getD r 0) * f r else 0
  | 0 => by simp [dot, sumN]
  | n + 1 => by
    have ih := dot_set f l r y hr n
    simp only [dot, sumN] at ih ⊢
    rw [ih]
    by_cases e : r = n
    · subst e
      have h1 : (l.set r y).getD r 0 = y := by rw [List.getD_eq_getElem?_getD, List.getElem?_set_self hr]; rfl
      rw [h1, if_neg (by omega), if_pos (by omega), Int.sub_mul]
      omega
    · have h1 : (l.set r y).getD n 0 = l.getD n 0 := by rw [List.getD_eq_getElem?_getD, List.getElem?_set_ne e, ← List.getD_eq_getElem?_getD]
      rw [h1]
      by_cases q : r < n
      · rw [if_pos q, if_pos (by omega)]; omega
      · rw [if_neg q, if_neg (by omega)]; omega

/-- How many words of a length there are from a state. -/
def cE (m : Dfa) : Nat → Nat → Int
  | 0, s => if m.good.getD s false then 1 else 0
  | n + 1, s => sumN (fun i => cE m n ((m.next.getD s []).getD i 0)) m.k

theorem fRow_cg (f : Nat → Int) (row : List Nat) (x : Int) (nx : List Int) (hrow : ∀ i, row.getD i 0 < nx.length) : ∀ j, Cg (dot f (fRow row x nx j) nx.length) (dot f nx nx.length + x * sumN (fun i => f (row.getD i 0)) j)
  | 0 => by simp [fRow, sumN]; exact Cg.refl _
  | j + 1 => by
    have ih := fRow_cg f row x nx hrow j
    have hl := fRow_len row x nx j
    rw [fRow_succ, dot_set f _ _ _ (by rw [hl]; exact hrow j), if_pos (hrow j), sumN, Int.mul_add]
    have h1 := (Cg.w64 ((fRow row x nx j).getD (row.getD j 0) 0 + x)).mul (f (row.getD j 0))
    rw [Int.add_mul] at h1
    rw [Int.sub_mul]
    have h2 := ih.add h1
    obtain ⟨q, hq⟩ := h2
    exact ⟨q, by omega⟩

theorem fRound_cg (m : Dfa) (hm : m.wf) (f : Nat → Int) (c : List Int) : ∀ k, k ≤ m.next.length → Cg (dot f (fRound m c k) m.next.length) (sumN (fun s => c.getD s 0 * sumN (fun i => f ((m.next.getD s []).getD i 0)) m.k) k)
  | 0, _ => by
    have : dot f (fRound m c 0) m.next.length = 0 := by
      unfold dot
      rw [sumN_same (g' := fun _ => 0) _ (fun i hi => by simp [fRound, hi])]
      exact sumN_zero _
    rw [this]; exact Cg.refl _
  | k + 1, hk => by
    have ih := fRound_cg m hm f c k (by omega)
    have hl := fRound_len m c k
    have h1 := fRow_cg f (m.next.getD k []) (c.getD k 0) (fRound m c k) (fun i => by
      rw [hl]
      rcases Nat.lt_or_ge i m.k with q | q
      · exact row_lt hm (by omega) q
      · have := row_len hm (s := k) (by omega)
        rw [List.getD_eq_getElem?_getD, List.getElem?_eq_none (by omega)]
        have := hm.n1
        exact this) m.k
    rw [hl] at h1
    rw [fRound_succ, sumN]
    exact h1.trans (ih.add (Cg.refl _))

theorem fwd_cg (m : Dfa) (hm : m.wf) (n : Nat) : ∀ j, Cg (dot (cE m n) (fwd m j) m.next.length) (cE m (n + j) 0)
  | 0 => by
    have h1 := hm.n1
    have : dot (cE m n) (fwd m 0) m.next.length = cE m n 0 := by
      have e : fwd m 0 = (List.replicate m.next.length 0).set 0 1 := by simp [fwd]
      rw [e, dot_set _ _ _ _ (by simp; omega), if_pos (by omega)]
      have h2 : dot (cE m n) (List.replicate m.next.length 0) m.next.length = 0 := by
        unfold dot
        rw [sumN_same (g' := fun _ => 0) _ (fun i hi => by simp [hi])]
        exact sumN_zero _
      have h3 : (List.replicate m.next.length (0 : Int)).getD 0 0 = 0 := by rw [List.getD_eq_getElem?_getD, List.getElem?_replicate]; split <;> rfl
      rw [h2, h3]
      simp
    rw [this]; exact Cg.refl _
  | j + 1 => by
    have ih := fwd_cg m hm (n + 1) j
    rw [fwd_succ, show n + (j + 1) = n + 1 + j from by omega]
    exact (fRound_cg m hm (cE m n) (fwd m j) _ (Nat.le_refl _)).trans ih

theorem sumF_cg (m : Dfa) (c : List Int) : ∀ k, Cg (sumF m c k) (dot (cE m 0) c k) ∧ inR (sumF m c k)
  | 0 => ⟨by simp [sumF, dot, sumN]; exact Cg.refl _, by simp [sumF, inR]⟩
  | k + 1 => by
    have ih := sumF_cg m c k
    rw [sumF_succ]
    have e : dot (cE m 0) c (k + 1) = dot (cE m 0) c k + c.getD k 0 * cE m 0 k := rfl
    rw [e]
    cases hg : m.good.getD k false with
    | true =>
      have e2 : cE m 0 k = 1 := by rw [cE, hg]; rfl
      rw [if_pos rfl, e2, Int.mul_one]
      exact ⟨(Cg.w64 _).trans (ih.1.add (Cg.refl _)), inR_w64 _⟩
    | false =>
      have e2 : cE m 0 k = 0 := by rw [cE, hg]; rfl
      rw [e2, Int.mul_zero, Int.add_zero]
      simpa using ih

theorem cntRow_get (row : List Nat) (c : List Int) (s : Nat) (nx : List Int) (hs : s < nx.length) : ∀ j, Cg ((cntRow row c s nx j).getD s 0) (nx.getD s 0 + sumN (fun i => c.getD (row.getD i 0) 0) j) ∧ (inR (nx.getD s 0) → inR ((cntRow row c s nx j).getD s 0)) ∧ ∀ t, t ≠ s → (cntRow row c s nx j).getD t 0 = nx.getD t 0
  | 0 => ⟨by simp [cntRow, sumN]; exact Cg.refl _, by simp [cntRow], by simp [cntRow]⟩
  | j + 1 => by
    obtain ⟨i1, i2, i3⟩ := cntRow_get row c s nx hs j
    have hl := cntRow_len row c s nx j
    rw [cntRow_succ]
    have e : ∀ y, ((cntRow row c s nx j).set s y).getD s 0 = y := fun y => by rw [List.getD_eq_getElem?_getD, List.getElem?_set_self (by omega)]; rfl
    rw [e]
    refine ⟨(Cg.w64 _).trans ?_, fun _ => inR_w64 _, fun t ht => ?_⟩
    · rw [sumN]
      have := i1.add (Cg.refl (c.getD (row.getD j 0) 0))
      rwa [Int.add_assoc] at this
    · rw [List.getD_eq_getElem?_getD, List.getElem?_set_ne (fun q => ht q.symm), ← List.getD_eq_getElem?_getD]
      exact i3 t ht

theorem sumN_cg {g g' : Nat → Int} : ∀ n, (∀ i, i < n → Cg (g i) (g' i)) → Cg (sumN g n) (sumN g' n)
  | 0, _ => Cg.refl _
  | n + 1, h => (sumN_cg n fun i hi => h i (by omega)).add (h n (by omega))

theorem cntRound_get (m : Dfa) (hm : m.wf) (c : List Int) : ∀ k, k ≤ m.next.length → ∀ s, s < m.next.length → inR ((cntRound m c k).getD s 0) ∧ Cg ((cntRound m c k).getD s 0) (if s < k then sumN (fun i => c.getD ((m.next.getD s []).getD i 0) 0) m.k else 0)
  | 0, _, s, hs => by simp [cntRound, hs, inR]; exact Cg.refl _
  | k + 1, hk, s, hs => by
    have ih := cntRound_get m hm c k (by omega)
    have hl := cntRound_len m c k
    obtain ⟨i1, i2, i3⟩ := cntRow_get (m.next.getD k []) c k (cntRound m c k) (by omega) m.k
    rw [cntRound_succ]
    by_cases e : s = k
    · subst e
      refine ⟨i2 (ih s hs).1, ?_⟩
      have h2 := (ih s hs).2
      rw [if_neg (by omega)] at h2
      rw [if_pos (by omega)]
      have := i1.trans (h2.add (Cg.refl _))
      rwa [Int.zero_add] at this
    · rw [i3 s e]
      have := ih s hs
      by_cases q : s < k
      · rw [if_pos q] at this; rw [if_pos (by omega)]; exact this
      · rw [if_neg q] at this; rw [if_neg (by omega)]; exact this

theorem cntStart_get (m : Dfa) : ∀ k, k ≤ m.next.length → ∀ s, s < m.next.length → (cntStart m k).getD s 0 = if s < k ∧ m.good.getD s false = true then 1 else 0
  | 0, _, s, hs => by simp [cntStart, hs]
  | k + 1, hk, s, hs => by
    have ih := cntStart_get m k (by omega) s hs
    have hl := cntStart_len m k
    rw [cntStart_succ]
    by_cases e : s = k
    · subst e
      cases hg : m.good.getD s false with
      | true =>
        rw [if_pos rfl, List.getD_eq_getElem?_getD, List.getElem?_set_self (by omega)]
        simp
      | false => rw [hg] at ih; simpa using ih
    · have h1 : ∀ y, ((cntStart m k).set k y).getD s 0 = (cntStart m k).getD s 0 := fun y => by rw [List.getD_eq_getElem?_getD, List.getElem?_set_ne (fun q => e q.symm), ← List.getD_eq_getElem?_getD]
      have h2 : s < k + 1 ↔ s < k := by omega
      simp only [h2]
      rw [← ih]
      split
      · exact h1 _
      · rfl

theorem cntF_get (m : Dfa) (hm : m.wf) : ∀ n s, s < m.next.length → inR ((cntF m n).getD s 0) ∧ Cg ((cntF m n).getD s 0) (cE m n s)
  | 0, s, hs => by
    have h := cntStart_get m m.next.length (Nat.le_refl _) s hs
    have e : cntF m 0 = cntStart m m.next.length := by simp [cntF]
    rw [e, h]
    simp only [hs, true_and, cE]
    refine ⟨?_, Cg.refl _⟩
    split <;> simp [inR]
  | n + 1, s, hs => by
    have h := cntRound_get m hm (cntF m n) m.next.length (Nat.le_refl _) s hs
    rw [if_pos hs] at h
    rw [cntF_succ]
    refine ⟨h.1, h.2.trans ?_⟩
    exact sumN_cg _ fun i hi => (cntF_get m hm n _ (row_lt hm hs hi)).2

theorem counts (m : Dfa) (hm : m.wf) (n : Nat) : sumF m (fwd m n) m.next.length = (cntF m n).getD 0 0 := by
  obtain ⟨h1, h2⟩ := sumF_cg m (fwd m n) m.next.length
  obtain ⟨h3, h4⟩ := cntF_get m hm n 0 (by have := hm.n1; omega)
  have h5 := fwd_cg m hm 0 n
  rw [Nat.zero_add] at h5
  exact Cg.eq ((h1.trans h5).trans h4.symm) h2 h3
end Go.Proofs
