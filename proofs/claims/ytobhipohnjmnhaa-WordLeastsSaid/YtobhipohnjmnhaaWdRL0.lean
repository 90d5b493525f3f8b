/-
  Plain laws: classes of states that no word parts, refined step by step, whatever the numbers; the machine of such classes is the least one.
-/
import Derived.Test.YtobhipohnjmnhaaWdK2
set_option linter.unusedSimpArgs false
set_option linter.unusedVariables false
set_option linter.unusedSectionVars false
namespace Go.Proofs
open Go Go.AH
set_option maxRecDepth 10000
set_option maxHeartbeats 4000000

theorem sgn_iff (m : Dfa) (hm : m.wf) (c : List Nat) (s t : Nat) : sgnF m c s = sgnF m c t ↔ c.getD s 0 = c.getD t 0 ∧ ∀ i, i < m.k → c.getD (nx m s i) 0 = c.getD (nx m t i) 0 := by
  have hk := hm.k4
  simp only [sgnF, List.cons.injEq]
  constructor
  · rintro ⟨h1, h2⟩
    refine ⟨by omega, fun i hi => ?_⟩
    have := congrArg (fun l => l[i]?) h2
    simp only [List.getElem?_map, List.getElem?_range (show i < 4 by omega), Option.map_some, hi, if_true, Option.some.injEq] at this
    simp only [nx]; omega
  · rintro ⟨h1, h2⟩
    refine ⟨by omega, List.map_congr_left fun i _ => ?_⟩
    by_cases hi : i < m.k
    · have := h2 i hi
      simp only [nx] at this
      simp only [hi, if_true, this]
    · simp only [hi, if_false]

/-- Classes on the way: alike are good alike, what no word parts is in one class; they are numbered by something. -/
structure Way (m : Dfa) (c : List Nat) (many : Nat) : Prop where
  len : c.length = m.next.length
  fine : ∀ s t, s < m.next.length → t < m.next.length → c.getD s 0 = c.getD t 0 → m.good.getD s false = m.good.getD t false
  coarse : ∀ s t, s < m.next.length → t < m.next.length → (∀ w, Ok m.k w → m.good.getD (goW m s w) false = m.good.getD (goW m t w) false) → c.getD s 0 = c.getD t 0
  num : many = 0 ∨ ∃ κ : Nat → List Int, c = clsF κ m.next.length ∧ many = (ddF κ m.next.length).length
/-- The end: no letter parts a class. -/
structure Fin (m : Dfa) (c : List Nat) (many : Nat) : Prop where
  len : c.length = m.next.length
  fine : ∀ s t, s < m.next.length → t < m.next.length → c.getD s 0 = c.getD t 0 → m.good.getD s false = m.good.getD t false
  coarse : ∀ s t, s < m.next.length → t < m.next.length → (∀ w, Ok m.k w → m.good.getD (goW m s w) false = m.good.getD (goW m t w) false) → c.getD s 0 = c.getD t 0
  lt : ∀ s, s < m.next.length → c.getD s 0 < many
  le : many ≤ m.next.length
  stable : ∀ s t, s < m.next.length → t < m.next.length → c.getD s 0 = c.getD t 0 → ∀ i, i < m.k → c.getD (nx m s i) 0 = c.getD (nx m t i) 0

theorem Way.next {m : Dfa} (hm : m.wf) {c : List Nat} {many : Nat} (w : Way m c many) : Way m (clsF (sgnF m c) m.next.length) (ddF (sgnF m c) m.next.length).length := by
  have e := fun s t hs ht => clsF_eq (sgnF m c) m.next.length s t hs ht
  refine ⟨clsF_len _ _, fun s t hs ht h => ?_, fun s t hs ht h => ?_, .inr ⟨_, rfl, rfl⟩⟩
  · exact w.fine s t hs ht ((sgn_iff m hm c s t).1 ((e s t hs ht).1 h)).1
  · refine (e s t hs ht).2 ((sgn_iff m hm c s t).2 ⟨w.coarse s t hs ht h, fun i hi => w.coarse _ _ (nx_lt hm hs hi) (nx_lt hm ht hi) fun v hv => ?_⟩)
    have := h (i :: v) fun j hj => by
      rcases List.mem_cons.1 hj with rfl | hj
      · exact hi
      · exact hv j hj
    exact this
theorem Way.pos {m : Dfa} (hm : m.wf) (κ : Nat → List Int) : 0 < (ddF κ m.next.length).length := by
  have h0 : 0 < m.next.length := by have := hm.n1; omega
  have := (mem_ddF κ (κ 0) m.next.length).2 ⟨0, h0, rfl⟩
  exact List.length_pos_of_mem this
theorem Way.le {m : Dfa} (hm : m.wf) {c : List Nat} {many : Nat} (w : Way m c many) : many ≤ (ddF (sgnF m c) m.next.length).length := by
  rcases w.num with rfl | ⟨κ, hc, rfl⟩
  · omega
  · refine ddF_fine κ (sgnF m c) m.next.length fun s t hs ht h => ?_
    have := ((sgn_iff m hm c s t).1 h).1
    rw [hc] at this
    exact (clsF_eq κ _ s t hs ht).1 this
theorem Way.fin {m : Dfa} (hm : m.wf) {c : List Nat} {many : Nat} (w : Way m c many) (he : (ddF (sgnF m c) m.next.length).length = many) : Fin m (clsF (sgnF m c) m.next.length) many := by
  have n := w.next hm
  have e := fun s t hs ht => clsF_eq (sgnF m c) m.next.length s t hs ht
  refine ⟨n.len, n.fine, n.coarse, fun s hs => by rw [← he]; exact clsF_lt _ _ s hs, by rw [← he]; exact ddF_le _ _, fun s t hs ht h i hi => ?_⟩
  have h1 := ((sgn_iff m hm c s t).1 ((e s t hs ht).1 h)).2 i hi
  refine (e _ _ (nx_lt hm hs hi) (nx_lt hm ht hi)).2 ?_
  rcases w.num with h0 | ⟨κ, hc, hmany⟩
  · have := Way.pos hm (sgnF m c); omega
  · refine ddF_same κ (sgnF m c) m.next.length (fun s t hs ht h => ?_) (by omega) _ _ (nx_lt hm hs hi) (nx_lt hm ht hi) ?_
    · have := ((sgn_iff m hm c s t).1 h).1
      rw [hc] at this
      exact (clsF_eq κ _ s t hs ht).1 this
    · rw [hc] at h1
      exact (clsF_eq κ _ _ _ (nx_lt hm hs hi) (nx_lt hm ht hi)).1 h1

open Classical in
noncomputable def repF (m : Dfa) (c : List Nat) (x : Nat) : Nat := if h : ∃ s, s < m.next.length ∧ c.getD s 0 = x then Classical.choose h else 0
noncomputable def clN (m : Dfa) (c : List Nat) (x i : Nat) : Nat := c.getD (nx m (repF m c x) i) 0
theorem clN_eq {m : Dfa} {c : List Nat} {many : Nat} (f : Fin m c many) {s : Nat} (hs : s < m.next.length) {i : Nat} (hi : i < m.k) : clN m c (c.getD s 0) i = c.getD (nx m s i) 0 := by
  have h : ∃ r, r < m.next.length ∧ c.getD r 0 = c.getD s 0 := ⟨s, hs, rfl⟩
  have e : repF m c (c.getD s 0) = Classical.choose h := by unfold repF; rw [dif_pos h]
  obtain ⟨h1, h2⟩ := Classical.choose_spec h
  unfold clN
  rw [e]
  exact f.stable _ _ h1 hs h2 i hi

theorem fin_least {m : Dfa} (hm : m.wf) {c : List Nat} {many : Nat} (f : Fin m c many) (states : List Nat) (rows : List (List Nat)) (F : Nat) (hst : ∀ s ∈ states, s < m.next.length)
    (h1 : ∀ a st, a < F → rIter (clN m c) (-1) m.k (c.getD 0 0) a = some st → a < st.1.length) (h2 : states.length = F) (e : rIter (clN m c) (-1) m.k (c.getD 0 0) F = some (states.map fun s => c.getD s 0, rows)) :
    (Dfa.mk m.k rows (states.map fun s => m.good.getD s false)) = leastF m := by
  have h0 : 0 < m.next.length := by have := hm.n1; omega
  have hl : (states.map fun s => c.getD s 0).length = F := by simp [h2]
  have hrn := rIter_rows _ _ _ _ F _ h1 e
  have hro := rIter_rowsok _ _ _ _ F _ e
  obtain ⟨v1, v2⟩ := rIter_val _ _ _ _ F _ h1 e
  have hlen := rIter_len _ _ _ _ F _ e
  have hbf := rIter_bf _ _ _ _ F _ h1 hl e (states.map fun s => m.good.getD s false)
  have hinv := rIter_inv (clN m c) (-1) (fun x => ∃ s, s < m.next.length ∧ c.getD s 0 = x) m.k (fun x i hx hi => by
    obtain ⟨s, hs, rfl⟩ := hx
    exact ⟨nx m s i, nx_lt hm hs hi, (clN_eq f hs hi).symm⟩) (c.getD 0 0) ⟨0, h0, rfl⟩ F _ e
  simp only at hrn hro v1 v2 hlen hinv hbf
  have hFn : F ≤ m.next.length := by
    have := nodup_lt many _ hinv.1 fun x hx => by obtain ⟨s, hs, rfl⟩ := hinv.2 x hx; exact f.lt s hs
    rw [hl] at this; have := f.le; omega
  have hwf : (Dfa.mk m.k rows (states.map fun s => m.good.getD s false)).wf := ⟨hm.k1, hm.k4, by simp only; omega, by simp only; have := hm.nmax; omega, by simp; omega, fun r hr => (hro r hr).1, fun r hr x hx => by have := (hro r hr).2 x hx; simp only; omega⟩
  -- states of m and of the machine
  have go : ∀ (w : List Nat) (s j : Nat), Ok m.k w → s < m.next.length → (states.map fun s => c.getD s 0)[j]? = some (c.getD s 0) → goW m s w < m.next.length ∧ (states.map fun s => c.getD s 0)[goW ⟨m.k, rows, states.map fun s => m.good.getD s false⟩ j w]? = some (c.getD (goW m s w) 0) := by
    intro w
    induction w with
    | nil => intro s j _ hs hj; exact ⟨hs, hj⟩
    | cons i w ih =>
      intro s j hw hs hj
      have hi := hw i (by simp)
      obtain ⟨x, q1, q2⟩ := v2 j (by have := (List.getElem?_eq_some_iff.1 hj).1; omega) i hi
      rw [hj] at q1; cases q1
      rw [clN_eq f hs hi] at q2
      exact ih (nx m s i) _ (fun q hq => hw q (by simp [hq])) (nx_lt hm hs hi) q2
  have good : ∀ (s j : Nat), s < m.next.length → (states.map fun s => c.getD s 0)[j]? = some (c.getD s 0) → (states.map fun s => m.good.getD s false).getD j false = m.good.getD s false := by
    intro s j hs hj
    rw [List.getElem?_map] at hj
    obtain ⟨r, hr, hrc⟩ := Option.map_eq_some_iff.1 hj
    have := f.fine r s (hst r (List.mem_of_getElem? hr)) hs hrc
    simp only [List.getD_eq_getElem?_getD, List.getElem?_map, hr, Option.map_some, Option.getD_some] at this ⊢
    exact this
  refine Canon.least ⟨hwf, hbf, fun s t hs ht h => ?_⟩ hm rfl fun w hw => ?_
  · obtain ⟨u, hu, eu⟩ := hbf.word hs
    obtain ⟨v, hv, ev⟩ := hbf.word ht
    obtain ⟨a1, a2⟩ := go u 0 0 hu h0 v1
    obtain ⟨b1, b2⟩ := go v 0 0 hv h0 v1
    rw [eu] at a2
    rw [ev] at b2
    have ec : c.getD (goW m 0 u) 0 = c.getD (goW m 0 v) 0 := f.coarse _ _ a1 b1 fun w hw => by
      obtain ⟨c1, c2⟩ := go w _ _ hw a1 a2
      obtain ⟨d1, d2⟩ := go w _ _ hw b1 b2
      rw [← good _ _ c1 c2, ← good _ _ d1 d2]
      exact h w hw
    rw [ec] at a2
    have hsl := (List.getElem?_eq_some_iff.1 a2).1
    have htl := (List.getElem?_eq_some_iff.1 b2).1
    rw [List.getElem?_eq_getElem hsl] at a2
    rw [List.getElem?_eq_getElem htl] at b2
    exact (List.getElem_inj hinv.1).1 (Option.some.inj (a2.trans b2.symm))
  · obtain ⟨a1, a2⟩ := go w 0 0 hw h0 v1
    exact good _ _ a1 a2
end Go.Proofs
