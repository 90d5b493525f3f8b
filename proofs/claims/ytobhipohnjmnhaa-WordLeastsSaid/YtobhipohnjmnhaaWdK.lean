/-
  Plain laws: machines whose states are numbered by the first words that lead to them, and no two of which are alike: there is just one of each language.
-/
import Derived.Test.YtobhipohnjmnhaaWdP2
set_option linter.unusedSimpArgs false
set_option linter.unusedVariables false
set_option linter.unusedSectionVars false
namespace Go.Proofs
open Go Go.AH
set_option maxRecDepth 10000
set_option maxHeartbeats 4000000

def nx (m : Dfa) (s i : Nat) : Nat := (m.next.getD s []).getD i 0
def Ok (k : Nat) (w : List Nat) : Prop := ∀ i ∈ w, i < k
theorem Ok.nil {k : Nat} : Ok k [] := fun _ h => by cases h
theorem Ok.app {k : Nat} {u v : List Nat} (hu : Ok k u) (hv : Ok k v) : Ok k (u ++ v) := fun i h => (List.mem_append.1 h).elim (hu i) (hv i)
theorem Ok.one {k i : Nat} (h : i < k) : Ok k [i] := fun j hj => by rw [List.mem_singleton.1 hj]; exact h
def accW (m : Dfa) (w : List Nat) : Bool := m.good.getD (goW m 0 w) false
theorem goW_snoc (m : Dfa) (s : Nat) (u : List Nat) (i : Nat) : goW m s (u ++ [i]) = nx m (goW m s u) i := by rw [goW_app]; rfl
theorem nx_lt {m : Dfa} (hm : m.wf) {s i : Nat} (hs : s < m.next.length) (hi : i < m.k) : nx m s i < m.next.length := row_lt hm hs hi

/-- States are numbered by first words. -/
def Bf (M : Dfa) : Prop := ∀ t, 0 < t → t < M.next.length → ∃ p i, p < t ∧ i < M.k ∧ nx M p i = t ∧ ∀ q j, j < M.k → (q < p ∨ q = p ∧ j < i) → nx M q j < t
structure Canon (M : Dfa) : Prop where
  wf : M.wf
  bf : Bf M
  apart : ∀ s t, s < M.next.length → t < M.next.length → (∀ w, Ok M.k w → M.good.getD (goW M s w) false = M.good.getD (goW M t w) false) → s = t

theorem Bf.reach {M : Dfa} (b : Bf M) : ∀ n t, t < n → t < M.next.length → ∃ w, Ok M.k w ∧ goW M 0 w = t
  | 0, t, h, _ => absurd h (by omega)
  | n + 1, t, h, ht => by
    by_cases h0 : t = 0
    · exact ⟨[], Ok.nil, h0.symm⟩
    · obtain ⟨p, i, hp, hi, e, _⟩ := b t (by omega) ht
      obtain ⟨w, hw, e1⟩ := Bf.reach b n p (by omega) (by omega)
      exact ⟨w ++ [i], hw.app (Ok.one hi), by rw [goW_snoc, e1, e]⟩
theorem Bf.word {M : Dfa} (b : Bf M) {t : Nat} (ht : t < M.next.length) : ∃ w, Ok M.k w ∧ goW M 0 w = t := b.reach (t + 1) t (by omega) ht

section
variable {M M' : Dfa}
/-- What is the same state in M is so in M'. -/
theorem Canon.to (c : Canon M) (c' : Canon M') (hk : M.k = M'.k) (hl : ∀ w, Ok M.k w → accW M w = accW M' w) {u v : List Nat} (hu : Ok M.k u) (hv : Ok M.k v) (e : goW M 0 u = goW M 0 v) : goW M' 0 u = goW M' 0 v := by
  have hn : 0 < M'.next.length := by have := c'.wf.n1; omega
  refine c'.apart _ _ (goW_lt c'.wf _ _ hn (by rw [← hk]; exact hu)) (goW_lt c'.wf _ _ hn (by rw [← hk]; exact hv)) fun w hw => ?_
  have hw' : Ok M.k w := by rw [hk]; exact hw
  have h1 := hl (u ++ w) (hu.app hw'); have h2 := hl (v ++ w) (hv.app hw')
  simp only [accW, goW_app] at h1 h2
  rw [← h1, ← h2, e]

/-- States of the same number are the same states. -/
def Same (M M' : Dfa) (t : Nat) : Prop := t < M.next.length → t < M'.next.length ∧ ∀ w, Ok M.k w → goW M 0 w = t → goW M' 0 w = t

theorem Canon.half (c : Canon M) (c' : Canon M') (hk : M.k = M'.k) (hl : ∀ w, Ok M.k w → accW M w = accW M' w) (t : Nat) (ih : ∀ s, s < t → Same M M' s ∧ Same M' M s) : Same M M' t := by
  intro ht
  have hn : 0 < M.next.length := by have := c.wf.n1; omega
  have hn' : 0 < M'.next.length := by have := c'.wf.n1; omega
  have key : ∃ u, Ok M.k u ∧ goW M 0 u = t ∧ goW M' 0 u = t ∧ t < M'.next.length := by
    by_cases h0 : t = 0
    · subst h0; exact ⟨[], Ok.nil, rfl, rfl, hn'⟩
    obtain ⟨p, i, hp, hi, e, hbef⟩ := c.bf t (by omega) ht
    obtain ⟨u, hu, eu⟩ := c.bf.word (show p < M.next.length by omega)
    obtain ⟨hpn, hpw⟩ := (ih p hp).1 (by omega)
    have eu' := hpw u hu eu
    have hui : Ok M.k (u ++ [i]) := hu.app (Ok.one hi)
    have et : goW M 0 (u ++ [i]) = t := by rw [goW_snoc, eu, e]
    have et' : goW M' 0 (u ++ [i]) = nx M' p i := by rw [goW_snoc, eu']
    have hlt' : nx M' p i < M'.next.length := nx_lt c'.wf hpn (by omega)
    rcases Nat.lt_trichotomy (nx M' p i) t with h | h | h
    · have := ((ih _ h).2 hlt').2 (u ++ [i]) (by rw [← hk]; exact hui) et'
      omega
    · exact ⟨u ++ [i], hui, et, et'.trans h, h ▸ hlt'⟩
    · exfalso
      obtain ⟨p', i', hp', hi', e', hbef'⟩ := c'.bf t (by omega) (by omega)
      have hlex : p' < p ∨ p' = p ∧ i' < i := by
        rcases Nat.lt_trichotomy p' p with q | q | q
        · exact .inl q
        · rcases Nat.lt_trichotomy i' i with r | r | r
          · exact .inr ⟨q, r⟩
          · subst q r; omega
          · have := hbef' p i (by omega) (.inr ⟨q.symm, r⟩); omega
        · have := hbef' p i (by omega) (.inl q); omega
      have hq := hbef p' i' (by omega) hlex
      obtain ⟨u', hu', eu'⟩ := c'.bf.word (show p' < M'.next.length by omega)
      obtain ⟨hpn2, hpw2⟩ := (ih p' hp').2 (by omega)
      have eu2 := hpw2 u' hu' eu'
      have hu2 : Ok M.k u' := by rw [hk]; exact hu'
      have hui2 : Ok M.k (u' ++ [i']) := hu2.app (Ok.one (by omega))
      have h1 : goW M 0 (u' ++ [i']) = nx M p' i' := by rw [goW_snoc, eu2]
      have h2 := ((ih _ hq).1 (by omega)).2 (u' ++ [i']) hui2 h1
      have h3 : goW M' 0 (u' ++ [i']) = t := by rw [goW_snoc, eu', e']
      omega
  obtain ⟨u, hu, e1, e2, e3⟩ := key
  exact ⟨e3, fun w hw ew => by rw [← e2]; exact c.to c' hk hl hw hu (ew.trans e1.symm)⟩

theorem Canon.all (c : Canon M) (c' : Canon M') (hk : M.k = M'.k) (hl : ∀ w, Ok M.k w → accW M w = accW M' w) : ∀ n t, t < n → Same M M' t ∧ Same M' M t
  | 0, t, h => absurd h (by omega)
  | n + 1, t, h => by
    have ih := Canon.all c c' hk hl n
    exact ⟨c.half c' hk hl t fun s hs => ih s (by omega), c'.half c hk.symm (fun w hw => (hl w (by rw [hk]; exact hw)).symm) t fun s hs => (ih s (by omega)).symm⟩

/-- There is one of each language. -/
theorem Canon.unique (c : Canon M) (c' : Canon M') (hk : M.k = M'.k) (hl : ∀ w, Ok M.k w → accW M w = accW M' w) : M = M' := by
  have hall := fun t => c.all c' hk hl (t + 1) t (by omega)
  have hlen : M.next.length = M'.next.length := by
    rcases Nat.lt_trichotomy M.next.length M'.next.length with q | q | q
    · have := ((hall M.next.length).2 q).1; omega
    · exact q
    · have := ((hall M'.next.length).1 q).1; omega
  have hgo : ∀ s, s < M.next.length → ∃ u, Ok M.k u ∧ goW M 0 u = s ∧ goW M' 0 u = s := fun s hs => by
    obtain ⟨u, hu, e⟩ := c.bf.word hs
    exact ⟨u, hu, e, ((hall s).1 hs).2 u hu e⟩
  have hnx : ∀ s i, s < M.next.length → i < M.k → nx M s i = nx M' s i := fun s i hs hi => by
    obtain ⟨u, hu, e1, e2⟩ := hgo s hs
    have h1 : goW M 0 (u ++ [i]) = nx M s i := by rw [goW_snoc, e1]
    have h2 := ((hall _).1 (nx_lt c.wf hs hi)).2 (u ++ [i]) (hu.app (Ok.one hi)) h1
    rw [goW_snoc, e2] at h2
    exact h2.symm
  have hnext : M.next = M'.next := by
    refine List.ext_getElem hlen fun s h1 h2 => ?_
    have r1 := c.wf.rl _ (List.getElem_mem h1); have r2 := c'.wf.rl _ (List.getElem_mem h2)
    refine List.ext_getElem (by omega) fun i h3 h4 => ?_
    have := hnx s i h1 (by omega)
    simpa [nx, h1, h2, h3, h4] using this
  have hgood : M.good = M'.good := by
    refine List.ext_getElem (by rw [c.wf.gl, c'.wf.gl, hlen]) fun s h1 h2 => ?_
    obtain ⟨u, hu, e1, e2⟩ := hgo s (by rw [← c.wf.gl]; exact h1)
    have := hl u hu
    simp only [accW, e1, e2] at this
    simpa [h1, h2] using this
  cases M; cases M'; simp_all
end

/-! ### What reached answers is numbered so -/
section
variable {α : Type} [DecidableEq α]
/-- The entry of a row. -/
def ent (rows : List (List Nat)) (q j : Nat) : Nat := (rows.getD q []).getD j 0
theorem ent_app_lt (rows : List (List Nat)) (r : List Nat) (q j : Nat) (h : q < rows.length) : ent (rows ++ [r]) q j = ent rows q j := by
  simp [ent, List.getD_eq_getElem?_getD, List.getElem?_append_left h]
theorem ent_app_eq (rows : List (List Nat)) (r : List Nat) (j : Nat) : ent (rows ++ [r]) rows.length j = r.getD j 0 := by
  simp [ent, List.getD_eq_getElem?_getD]
/-- In the midst of a row: the first i letters of the state a. -/
def Mid (k : Nat) (rows : List (List Nat)) (row : List Nat) (N : Nat) : Prop := ∀ t, 0 < t → t < N → ∃ p i, p < t ∧ (p < rows.length ∧ i < k ∨ p = rows.length ∧ i < row.length) ∧ ent (rows ++ [row]) p i = t ∧ ∀ q j, j < k → (q < p ∨ q = p ∧ j < i) → ent (rows ++ [row]) q j < t

theorem Mid.snoc {k : Nat} {rows : List (List Nat)} {row : List Nat} {N y : Nat} (m : Mid k rows row N) (hr : row.length < k) : Mid k rows (row ++ [y]) N := fun t h0 ht => by
  obtain ⟨p, i, h1, h2, h3, h4⟩ := m t h0 ht
  have e : ∀ q j, (q < rows.length ∨ q = rows.length ∧ j < row.length) → ent (rows ++ [row ++ [y]]) q j = ent (rows ++ [row]) q j := fun q j hq => by
    rcases hq with hq | ⟨rfl, hj⟩
    · rw [ent_app_lt _ _ _ _ hq, ent_app_lt _ _ _ _ hq]
    · rw [ent_app_eq, ent_app_eq]; simp [List.getD_eq_getElem?_getD, List.getElem?_append_left hj]
  refine ⟨p, i, h1, ?_, ?_, fun q j hj hq => ?_⟩
  · rcases h2 with q | ⟨q, r⟩
    · exact .inl q
    · exact .inr ⟨q, by simp; omega⟩
  · rw [e p i (by rcases h2 with q | ⟨q, r⟩ <;> omega)]; exact h3
  · rw [e q j (by rcases h2 with r | ⟨r, r2⟩ <;> rcases hq with s | ⟨s, s2⟩ <;> omega)]; exact h4 q j hj hq

theorem rRow_mid (ν : α → Nat → α) (most : Int) (x : α) (keys : List α) (rows : List (List Nat)) (K : Nat) (hlen : rows.length < keys.length) (hro : ∀ r ∈ rows, r.length = K ∧ ∀ y ∈ r, y < keys.length) (h0 : Mid K rows [] keys.length) :
    ∀ (k : Nat), k ≤ K → ∀ (st : List α × List Nat), rRow ν most x keys k = some st → Mid K rows st.2 st.1.length
  | 0, _, st, e => by simp [rRow] at e; subst e; exact h0
  | k + 1, hk, st, e => by
    rw [rRow_succ] at e
    cases h : rRow ν most x keys k with
    | none => rw [h] at e; simp [rStep] at e
    | some st' =>
      have ih := rRow_mid ν most x keys rows K hlen hro h0 k (by omega) st' h
      obtain ⟨hl1, hl2, hl3⟩ := rRow_len ν most x keys k st' h
      have hlt := rRow_lt ν most x keys k st' h
      rw [h] at e
      simp only [rStep, Option.bind_some] at e
      split at e
      · simp only [Option.some.injEq] at e; subst e
        exact ih.snoc (by omega)
      · split at e
        · cases e
        · simp only [Option.some.injEq] at e; subst e
          intro t ht0 ht
          simp only [List.length_append, List.length_singleton] at ht
          by_cases hN : t < st'.1.length
          · exact (ih.snoc (y := st'.1.length) (by omega)) t ht0 hN
          · obtain rfl : t = st'.1.length := by omega
            refine ⟨rows.length, k, by omega, .inr ⟨rfl, by simp; omega⟩, ?_, fun q j hj hq => ?_⟩
            · rw [ent_app_eq]
              simp [List.getD_eq_getElem?_getD, List.getElem?_append_right (show st'.2.length ≤ k by omega), hl1]
            · rcases hq with hq | ⟨rfl, hj2⟩
              · rw [ent_app_lt _ _ _ _ hq]
                have hr := hro _ (List.getElem_mem hq)
                have : ent rows q j = rows[q][j]'(by omega) := by simp [ent, hq, hr.1, hj]
                rw [this]
                have := hr.2 _ (List.getElem_mem (show j < rows[q].length by omega))
                omega
              · rw [ent_app_eq]
                have hj3 : j < st'.2.length := by omega
                have : (st'.2 ++ [st'.1.length]).getD j 0 = st'.2[j] := by simp [List.getD_eq_getElem?_getD, List.getElem?_append_left hj3, hj3]
                rw [this]
                exact hlt _ (List.getElem_mem hj3)
theorem rIter_mid (ν : α → Nat → α) (most : Int) (k : Nat) (start : α) : ∀ (a : Nat) (st : List α × List (List Nat)), (∀ b st, b < a → rIter ν most k start b = some st → b < st.1.length) → rIter ν most k start a = some st → Mid k st.2 [] st.1.length
  | 0, st, _, e => by
    simp [rIter] at e; subst e
    intro t h0 ht
    simp only [List.length_singleton] at ht; omega
  | a + 1, st, hF, e => by
    simp only [rIter] at e
    cases h : rIter ν most k start a with
    | none => rw [h] at e; cases e
    | some st' =>
      have ih := rIter_mid ν most k start a st' (fun b st hb => hF b st (by omega)) h
      have h1 := rIter_rows ν most k start a st' (fun b st hb => hF b st (by omega)) h
      have h2 := hF a st' (by omega) h
      have hro := rIter_rowsok ν most k start a st' h
      rw [h] at e
      simp only [Option.bind_some, List.getElem?_eq_getElem h2] at e
      cases hr : rRow ν most st'.1[a] st'.1 k with
      | none => rw [hr] at e; cases e
      | some r =>
        rw [hr] at e
        simp only [Option.map_some, Option.some.injEq] at e
        subst e
        have := rRow_mid ν most st'.1[a] st'.1 st'.2 k (by omega) hro ih k (Nat.le_refl _) r hr
        have hrl := (rRow_len ν most st'.1[a] st'.1 k r hr).1
        intro t ht0 ht
        obtain ⟨p, i, q1, q2, q3, q4⟩ := this t ht0 ht
        have e : ∀ q j, q < (st'.2 ++ [r.2]).length → ent ((st'.2 ++ [r.2]) ++ [[]]) q j = ent (st'.2 ++ [r.2]) q j := fun q j hq => ent_app_lt _ _ _ _ hq
        have hp : p < (st'.2 ++ [r.2]).length := by simp; rcases q2 with s | ⟨s, _⟩ <;> omega
        refine ⟨p, i, q1, .inl ⟨hp, by rcases q2 with s | ⟨_, s⟩ <;> omega⟩, by rw [e p i hp]; exact q3, fun q j hj hq => ?_⟩
        rw [e q j (by rcases hq with s | ⟨s, _⟩ <;> omega)]
        exact q4 q j hj hq
/-- What reached answers, as a machine, is numbered by first words. -/
theorem rIter_bf (ν : α → Nat → α) (most : Int) (k : Nat) (start : α) (F : Nat) (st : List α × List (List Nat)) (h1 : ∀ b st, b < F → rIter ν most k start b = some st → b < st.1.length) (h2 : st.1.length = F) (e : rIter ν most k start F = some st) (good : List Bool) : Bf ⟨k, st.2, good⟩ := by
  have hm := rIter_mid ν most k start F st h1 e
  have hr := rIter_rows ν most k start F st h1 e
  intro t h0 ht
  simp only at ht
  obtain ⟨p, i, q1, q2, q3, q4⟩ := hm t h0 (by omega)
  have hp : p < st.2.length := by omega
  have hi : i < k := by
    rcases q2 with s | ⟨_, s⟩
    · exact s.2
    · simp at s
  refine ⟨p, i, q1, hi, ?_, fun q j hj hq => ?_⟩
  · rw [ent_app_lt _ _ _ _ hp] at q3; exact q3
  · have := q4 q j hj hq
    rw [ent_app_lt _ _ _ _ (by rcases hq with s | ⟨s, _⟩ <;> omega)] at this
    exact this
end

/-! ### The least machine is one of these -/
theorem refI_apart (m : Dfa) (hm : m.wf) : ∀ (j s t : Nat), s < m.next.length → t < m.next.length → (∀ w, Ok m.k w → m.good.getD (goW m s w) false = m.good.getD (goW m t w) false) → (refI m j).1.getD s 0 = (refI m j).1.getD t 0
  | 0, s, t, hs, ht, h => (clsF_eq _ _ s t hs ht).2 (h [] Ok.nil)
  | j + 1, s, t, hs, ht, h => by
    refine (clsF_eq (sgnF m (refI m j).1) _ s t hs ht).2 ?_
    have h1 := refI_apart m hm j s t hs ht h
    have h2 : ∀ i, i < m.k → (refI m j).1.getD ((m.next.getD s []).getD i 0) 0 = (refI m j).1.getD ((m.next.getD t []).getD i 0) 0 := fun i hi =>
      refI_apart m hm j _ _ (row_lt hm hs hi) (row_lt hm ht hi) fun w hw => h (i :: w) fun q hq => by
        rcases List.mem_cons.1 hq with rfl | hq
        · exact hi
        · exact hw q hq
    simp only [sgnF, List.cons.injEq]
    refine ⟨by omega, List.map_congr_left fun i _ => ?_⟩
    by_cases hi : i < m.k
    · simp only [hi, if_true]; rw [h2 i hi]
    · simp only [hi, if_false]

theorem Sim.go {m M : Dfa} {B : Nat → Nat → Prop} (S : Sim m M B) : ∀ (w : List Nat) (s t : Nat), Ok m.k w → B s t → B (goW m s w) (goW M t w)
  | [], _, _, _, h => h
  | i :: w, s, t, hw, h => S.go w _ _ (fun j hj => hw j (by simp [hj])) (S.next s t h i (hw i (by simp)))
theorem Sim.acc {m M : Dfa} {B : Nat → Nat → Prop} (S : Sim m M B) (w : List Nat) (hw : Ok m.k w) : accW m w = accW M w := S.good _ _ (S.go w 0 0 hw S.start)

theorem least_acc {m : Dfa} (hm : m.wf) (w : List Nat) (hw : Ok m.k w) : accW (leastF m) w = accW m w := by
  obtain ⟨B, S⟩ := least_sim hm
  exact (S.acc w hw).symm
end Go.Proofs
