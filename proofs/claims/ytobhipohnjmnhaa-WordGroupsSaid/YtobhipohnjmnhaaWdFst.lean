/-
  Plain laws: the first word of a machine whose states are numbered by first words depends on its language alone.
-/
import Derived.Test.YtobhipohnjmnhaaWdPT
set_option linter.unusedSimpArgs false
set_option linter.unusedVariables false
set_option linter.unusedSectionVars false
namespace Go.Proofs
open Go Go.AH
set_option maxRecDepth 10000
set_option maxHeartbeats 4000000

/-- A word's letters come first: shorter words, then by the first letter in which they differ. -/
def lexlt : List Nat → List Nat → Prop
  | _, [] => False
  | [], _ :: _ => True
  | a :: u, b :: v => a < b ∨ a = b ∧ lexlt u v
def slt (u v : List Nat) : Prop := u.length < v.length ∨ u.length = v.length ∧ lexlt u v
theorem lexlt_irrefl : ∀ u, ¬ lexlt u u
  | [], h => h
  | a :: u, h => by
    rcases h with h | ⟨_, h⟩
    · omega
    · exact lexlt_irrefl u h
theorem lexlt_trans : ∀ {u v w}, lexlt u v → lexlt v w → lexlt u w
  | _, [], _, h, _ => by simp [lexlt] at h
  | _, _ :: _, [], _, h => by simp [lexlt] at h
  | [], _ :: _, _ :: _, _, _ => trivial
  | a :: u, b :: v, c :: w, h, h' => by
    rcases h with h | ⟨h, h1⟩ <;> rcases h' with h' | ⟨h', h2⟩
    · exact .inl (by omega)
    · exact .inl (by omega)
    · exact .inl (by omega)
    · exact .inr ⟨by omega, lexlt_trans h1 h2⟩
theorem slt_irrefl (u : List Nat) : ¬ slt u u := fun h => by
  rcases h with h | ⟨_, h⟩
  · omega
  · exact lexlt_irrefl u h
theorem slt_trans {u v w : List Nat} (h : slt u v) (h' : slt v w) : slt u w := by
  rcases h with h | ⟨h, h1⟩ <;> rcases h' with h' | ⟨h', h2⟩
  · exact .inl (by omega)
  · exact .inl (by omega)
  · exact .inl (by omega)
  · exact .inr ⟨by omega, lexlt_trans h1 h2⟩
theorem lexlt_snoc : ∀ {u v : List Nat}, u.length = v.length → ∀ (i j : Nat), lexlt u v → lexlt (u ++ [i]) (v ++ [j])
  | _, [], _, _, _, h => by simp [lexlt] at h
  | [], _ :: _, e, _, _, _ => by simp at e
  | a :: u, b :: v, e, i, j, h => by
    rcases h with h | ⟨h, h1⟩
    · exact .inl h
    · exact .inr ⟨h, lexlt_snoc (by simpa using e) i j h1⟩
theorem lexlt_same : ∀ (u : List Nat) {i j : Nat}, i < j → lexlt (u ++ [i]) (u ++ [j])
  | [], _, _, h => .inl h
  | a :: u, _, _, h => .inr ⟨rfl, lexlt_same u h⟩
theorem slt_snoc {u v : List Nat} (i j : Nat) (h : slt u v) : slt (u ++ [i]) (v ++ [j]) := by
  rcases h with h | ⟨h, h1⟩
  · exact .inl (by simp; omega)
  · exact .inr ⟨by simp; omega, lexlt_snoc h i j h1⟩
theorem slt_same (u : List Nat) {i j : Nat} (h : i < j) : slt (u ++ [i]) (u ++ [j]) := .inr ⟨by simp, lexlt_same u h⟩

theorem par_of {M : Dfa} (b : Bf M) {t : Nat} (h0 : 0 < t) (ht : t < M.next.length) : ∃ p i, Par M t p i := by
  obtain ⟨p, i, hp, hi, e, hb⟩ := b t h0 ht
  exact ⟨p, i, hp, hi, e, fun q j hj hq => by have := hb q j hj hq; omega⟩
/-- The letters' numbers of a state's first word. -/
def wn (M : Dfa) (t : Nat) : List Nat := lts (wd M t)
theorem wn_par {M : Dfa} (hM : M.wf) (b : Bf M) {t p i : Nat} (ht : t < M.next.length) (h : Par M t p i) : wn M t = wn M p ++ [i] := by
  unfold wn
  rw [wd_par hM b ht h, lts_ltr hM.k4 h.li]
theorem wn_zero {M : Dfa} (hM : M.wf) : wn M 0 = [] := by
  have h0 : 0 < M.next.length := by have := hM.n1; omega
  simp [wn, wd, wIter, h0, lts]

/-- First words rise with the states. -/
theorem wn_mono {M : Dfa} (hM : M.wf) (b : Bf M) : ∀ n s t, s < t → t < n → t < M.next.length → slt (wn M s) (wn M t)
  | 0, s, t, _, h, _ => by omega
  | n + 1, s, t, hst, hn, ht => by
    obtain ⟨p, i, hp⟩ := par_of b (show 0 < t by omega) ht
    rw [wn_par hM b ht hp]
    by_cases h0 : s = 0
    · subst h0
      rw [wn_zero hM]
      exact .inl (by simp)
    · obtain ⟨p', i', hp'⟩ := par_of b (show 0 < s by omega) (by omega)
      rw [wn_par hM b (by omega) hp']
      -- the parent of s lies ahead of the parent of t
      have hlt := hp.lt; have hlt' := hp'.lt
      obtain ⟨q, j, hq, hj, e, hb⟩ := b t (by omega) ht
      have hpq : p = q ∧ i = j := by
        have h1 : ¬ (p < q ∨ p = q ∧ i < j) := fun h => by have := hb p i hp.li h; rw [hp.hnx] at this; omega
        have h2 : ¬ (q < p ∨ q = p ∧ j < i) := fun h => hp.bef q j hj h e
        omega
      obtain ⟨q', j', hq', hj', e', hb'⟩ := b s (by omega) (by omega)
      have hpq' : p' = q' ∧ i' = j' := by
        have h1 : ¬ (p' < q' ∨ p' = q' ∧ i' < j') := fun h => by have := hb' p' i' hp'.li h; rw [hp'.hnx] at this; omega
        have h2 : ¬ (q' < p' ∨ q' = p' ∧ j' < i') := fun h => hp'.bef q' j' hj' h e'
        omega
      have hlex : p' < p ∨ p' = p ∧ i' < i := by
        rcases Nat.lt_trichotomy p' p with h | h | h
        · exact .inl h
        · rcases Nat.lt_trichotomy i' i with h2 | h2 | h2
          · exact .inr ⟨h, h2⟩
          · exfalso; have h3 := hp.hnx; have h4 := hp'.hnx; rw [← h, ← h2, h4] at h3; omega
          · exfalso
            have := hb' p i hp.li (.inr ⟨by omega, by omega⟩)
            rw [hp.hnx] at this; omega
        · exfalso
          have := hb' p i hp.li (.inl (by omega))
          rw [hp.hnx] at this; omega
      rcases hlex with h | ⟨rfl, h⟩
      · exact slt_snoc _ _ (wn_mono hM b n p' p h (by omega) (by omega))
      · exact slt_same _ h
/-- .. and are the first ones of all that lead there. -/
theorem wn_least {M : Dfa} (hM : M.wf) (b : Bf M) : ∀ (n : Nat) (w : List Nat), w.length = n → Ok M.k w → wn M (goW M 0 w) = w ∨ slt (wn M (goW M 0 w)) w
  | 0, w, hn, _ => by
    obtain rfl := List.eq_nil_of_length_eq_zero hn
    exact .inl (wn_zero hM)
  | n + 1, w, hn, hw => by
    obtain ⟨u, j, rfl⟩ : ∃ u j, w = u ++ [j] := ⟨w.dropLast, w.getLast (by intro h; simp [h] at hn), (List.dropLast_concat_getLast _).symm⟩
    have hu : Ok M.k u := fun x hx => hw x (by simp [hx])
    have hj : j < M.k := hw j (by simp)
    have ih := wn_least hM b n u (by simpa using hn) hu
    have h0 : 0 < M.next.length := by have := hM.n1; omega
    have hq := goW_lt hM u 0 h0 hu
    rw [goW_snoc]
    generalize goW M 0 u = q at ih hq ⊢
    have ht := nx_lt hM hq hj
    generalize hte : nx M q j = t at ht ⊢
    by_cases h0t : t = 0
    · subst h0t
      rw [wn_zero hM]
      exact .inr (.inl (by simp))
    · obtain ⟨p, i, hp⟩ := par_of b (by omega) ht
      rw [wn_par hM b ht hp]
      have hlex : p < q ∨ p = q ∧ i ≤ j := by
        rcases Nat.lt_trichotomy p q with h | h | h
        · exact .inl h
        · by_cases h2 : i ≤ j
          · exact .inr ⟨h, h2⟩
          · exact absurd hte (hp.bef q j hj (.inr ⟨h.symm, by omega⟩))
        · exact absurd hte (hp.bef q j hj (.inl h))
      rcases hlex with h | ⟨rfl, h⟩
      · have h1 := wn_mono hM b (q + 1) p q h (by omega) hq
        refine .inr (slt_snoc _ _ ?_)
        rcases ih with e | e
        · rw [e] at h1; exact h1
        · exact slt_trans h1 e
      · rcases Nat.lt_or_eq_of_le h with h2 | rfl
        · rcases ih with e | e
          · rw [e]; exact .inr (slt_same _ h2)
          · exact .inr (slt_snoc _ _ e)
        · rcases ih with e | e
          · rw [e]; exact .inl rfl
          · exact .inr (slt_snoc _ _ e)

theorem lts_inj {k : Nat} : ∀ {u v : List UInt8}, (∀ b ∈ u, badB k b = false) → (∀ b ∈ v, badB k b = false) → lts u = lts v → u = v
  | [], [], _, _, _ => rfl
  | [], _ :: _, _, _, h => by simp [lts] at h
  | _ :: _, [], _, _, h => by simp [lts] at h
  | a :: u, b :: v, hu, hv, h => by
    simp only [lts, List.map_cons, List.cons.injEq] at h
    have h1 := hu a (by simp); have h2 := hv b (by simp)
    simp only [badB, Bool.or_eq_false_iff, decide_eq_false_iff_not] at h1 h2
    have : a = b := UInt8.toNat.inj (by omega)
    rw [this, lts_inj (fun x hx => hu x (by simp [hx])) (fun x hx => hv x (by simp [hx])) h.2]

/-- The first word of a machine is accepted, and no earlier one is. -/
theorem first_is {M : Dfa} (hM : M.wf) (b : Bf M) {w : List UInt8} (e : firstF M = some w) : ∀ v, Ok M.k v → accW M v = true → lts w = v ∨ slt (lts w) v := by
  simp only [firstF, Option.map_eq_some_iff] at e
  obtain ⟨⟨s, w'⟩, h1, rfl⟩ := e
  rw [List.find?_eq_some_iff_getElem] at h1
  obtain ⟨hg, i, hi, h2, h3⟩ := h1
  simp only [wItems, List.length_map, List.length_range] at hi
  simp only [wItems, List.getElem_map, List.getElem_range, Prod.mk.injEq] at h2 h3
  obtain ⟨rfl, rfl⟩ := h2
  intro v hv ha
  have h0 : 0 < M.next.length := by have := hM.n1; omega
  have hq := goW_lt hM v 0 h0 hv
  have hle : i ≤ goW M 0 v := by
    by_cases h : i ≤ goW M 0 v
    · exact h
    · have := h3 (goW M 0 v) (by omega)
      simp only [accW] at ha
      rw [ha] at this
      cases this
  have hl := wn_least hM b _ v rfl hv
  show wn M i = v ∨ slt (wn M i) v
  rcases Nat.lt_or_eq_of_le hle with h | h
  · have := wn_mono hM b _ i (goW M 0 v) h (Nat.lt_succ_self _) hq
    rcases hl with e | e
    · rw [e] at this; exact .inr this
    · exact .inr (slt_trans this e)
  · rw [h]; exact hl

theorem first_lang {M N : Dfa} (hM : M.wf) (hN : N.wf) (b : Bf M) (b' : Bf N) (hk : M.k = N.k) (hl : ∀ w, Ok M.k w → accW M w = accW N w) : firstF M = firstF N := by
  cases e : firstF M with
  | none =>
    cases e' : firstF N with
    | none => rfl
    | some w =>
      exfalso
      obtain ⟨h1, h2, _⟩ := first_some hN b' e'
      have := first_none hM e (lts w) (by rw [hk]; exact lts_ok h2)
      rw [hl _ (by rw [hk]; exact lts_ok h2), h1] at this
      cases this
  | some w =>
    obtain ⟨h1, h2, _⟩ := first_some hM b e
    cases e' : firstF N with
    | none =>
      exfalso
      have := first_none hN e' (lts w) (by rw [← hk]; exact lts_ok h2)
      rw [← hl _ (lts_ok h2), h1] at this
      cases this
    | some v =>
      obtain ⟨g1, g2, _⟩ := first_some hN b' e'
      have okv : Ok M.k (lts v) := by rw [hk]; exact lts_ok g2
      have r1 := first_is hM b e (lts v) okv (by rw [hl _ okv]; exact g1)
      have r2 := first_is hN b' e' (lts w) (by rw [← hk]; exact lts_ok h2) (by rw [← hl _ (lts_ok h2)]; exact h1)
      have : lts w = lts v := by
        rcases r1 with r1 | r1
        · exact r1
        · rcases r2 with r2 | r2
          · exact r2.symm
          · exact absurd (slt_trans r1 r2) (slt_irrefl _)
      rw [lts_inj h2 (by rw [hk]; exact g2) this]
end Go.Proofs
