/-
  Pair: whether numbers are a pairing.
-/
import Derived.Test.YtkdhgablioljnaaPaE
set_option linter.unusedSimpArgs false
set_option linter.unusedVariables false
set_option linter.unusedSectionVars false
namespace Go.Proofs
open Go Go.AH
set_option maxRecDepth 10000
set_option maxHeartbeats 4000000

theorem joinB_key {l : List Ed} {a b : Int} : l.any (fun e => decide (mnE e = mnE (a, b)) && decide (mxE e = mxE (a, b))) = joinB l a b := by
  rw [Bool.eq_iff_iff, joinB_iff, List.any_eq_true]
  constructor
  · rintro ⟨e, he, q⟩
    simp at q
    exact ⟨e, he, sameE_iff.2 q⟩
  · rintro ⟨e, he, q⟩
    exact ⟨e, he, by simpa using sameE_iff.1 q⟩
/-- What is asked of the number of point i. -/
def pOk (n : Int) (l : List Ed) (m : List Int) (i : Nat) : Prop := m[i]? = some (-1) ∨ ∃ k, m[i]? = some k ∧ 0 ≤ k ∧ k < n ∧ m[k.toNat]? = some (i : Int) ∧ joinB l i k = true
def cntR (m : List Int) (k : Nat) : Nat := ((List.range k).filter fun a => decide (m.getD a (-1) ≠ -1) && decide ((a : Int) < m.getD a (-1))).length
def cntP (m : List Int) (k : Nat) : Nat := ((List.range k).filter fun a => decide (m.getD a (-1) ≠ -1)).length
theorem cntR_succ (m : List Int) (k : Nat) : cntR m (k + 1) = cntR m k + (if m.getD k (-1) ≠ -1 ∧ (k : Int) < m.getD k (-1) then 1 else 0) := by
  unfold cntR
  rw [List.range_succ, List.filter_append, List.length_append]
  congr 1
  simp only [List.filter_cons, List.filter_nil]
  by_cases h : m.getD k (-1) ≠ -1 ∧ (k : Int) < m.getD k (-1)
  · rw [if_pos h, if_pos (by simpa using h)]; rfl
  · rw [if_neg h, if_neg (by simpa using h)]; rfl
theorem cntP_succ (m : List Int) (k : Nat) : cntP m (k + 1) = cntP m k + (if m.getD k (-1) ≠ -1 then 1 else 0) := by
  unfold cntP
  rw [List.range_succ, List.filter_append, List.length_append]
  congr 1
  simp only [List.filter_cons, List.filter_nil]
  by_cases h : m.getD k (-1) ≠ -1
  · rw [if_pos h, if_pos (by simpa using h)]; rfl
  · rw [if_neg h, if_neg (by simpa using h)]; rfl
theorem cntR_le (m : List Int) (k : Nat) : cntR m k ≤ k := by
  have := List.length_filter_le (fun a : Nat => decide (m.getD a (-1) ≠ -1) && decide ((a : Int) < m.getD a (-1))) (List.range k)
  simpa [cntR] using this
theorem cntP_le (m : List Int) (k : Nat) : cntP m k ≤ k := by
  have := List.length_filter_le (fun a : Nat => decide (m.getD a (-1) ≠ -1)) (List.range k)
  simpa [cntP] using this
open Classical in
noncomputable def isPR (n : Int) (l : List Ed) (m : List Int) : AV := if chkG n l = 0 ∧ (m.length : Int) = n ∧ ∀ i, i < m.length → pOk n l m i then .tup [.int .i64 (cntR m m.length), .bool true] else .tup [.int .i64 0, .bool false]
open Classical in
noncomputable def isPP (n : Int) (l : List Ed) (m : List Int) : AV := if chkG n l = 0 ∧ (m.length : Int) = n ∧ ∀ i, i < m.length → pOk n l m i then .tup [.int .i64 ((cntP m m.length / 2 : Nat) : Int), .bool true] else .tup [.int .i64 0, .bool false]
theorem chk_cases (n : Int) (l : List Ed) : chkG n l = 0 ∨ chkG n l = 40 := by
  unfold chkG; split <;> simp
theorem chk_zero {n : Int} {l : List Ed} (h : chkG n l = 0) : 1 ≤ n ∧ n ≤ 40 ∧ l.length ≤ 300 ∧ GOk n l := by
  unfold chkG at h; split at h
  · assumption
  · cases h

theorem w_RIsPairing (n : Int) (l : List Ed) (hl : l.length ≤ 1000000) (m : List Int) (hm : m.length ≤ 1000000) : Pure Try.prog 26 [gV n l, intL m] (isPR n l m) := by
  refine pure_of (acalls_of Try.func26 rfl Try.call26 (by kernel_rfl) (by show _ ≤ (60 : Nat); simp) ?_)
  have ck := w_RCheck n l hl
  have cj := fun a b => w_Joined n l hl a b
  obtain ⟨r, hr⟩ : ∃ r, r = isPR n l m := ⟨_, rfl⟩
  rw [← hr]
  obtain ⟨V, hV⟩ : ∃ V, V = edL l := ⟨_, rfl⟩
  have hV1 : V.one = true := by rw [hV]; simp
  have hV2 : V.fit = true := by rw [hV]; simp
  have hV3 : V.cells = [V] := by rw [hV]; simp
  have hg : gV n l = .agg [.int .i64 n, V] := by rw [hV]; rfl
  rw [hg] at ck cj ⊢
  have hbad : ¬ (chkG n l = 0 ∧ (m.length : Int) = n ∧ ∀ i, i < m.length → pOk n l m i) → r = .tup [.int .i64 0, .bool false] := fun q => by rw [hr, isPR, if_neg q]
  simp [hV1, hV2, hV3]
  intro b2 hb2
  simp
  refine ck.use ?_
  rcases chk_cases n l with c0 | c0
  rotate_left
  · have := hbad (fun q => by rw [c0] at q; exact absurd q.1 (by decide))
    simp [c0]
    exact finA_drop (by rw [this])
  obtain ⟨k1, k2, k3, k4⟩ := chk_zero c0
  by_cases c1 : (m.length : Int) = n
  rotate_left
  · have := hbad (fun q => c1 q.2.1)
    simp [c0, c1, -lenA, lenA_intL]
    exact finA_drop (by rw [this])
  simp [c0, c1, -lenA, lenA_intL]
  refine awp_loop_g (γ := Nat) (fun i t h => (i ≤ m.length) ∧ (∀ j, j < i → pOk n l m j) ∧ t 1 = intL m ∧ t 2 = .ptr b2 0 ∧ t 6 = .int .i64 (cntR m i) ∧ t 7 = .int .i64 i ∧ h = AHeap.empty.upd b2 (.cells [.int .i64 n, V])) (fun i => m.length - i) (0) (turnA_self (by simp [cntR])) ?_
  rintro i t h ⟨hi, hp, h1, h2, h6, h7, rfl⟩
  by_cases hlt : i < m.length
  · have hltI : (i : Int) < (m.length : Int) := by omega
    have hwi : IntKind.i64.wrap ((i : Int) + 1) = (i : Int) + 1 := wrap_i64 (by omega) (by omega)
    have hVm := intL_ne hlt
    obtain ⟨k, hk⟩ : ∃ k, m[i]? = some k := ⟨_, List.getElem?_eq_getElem hlt⟩
    have hat := intC_at hk
    have hkd : m.getD i (-1) = k := by rw [List.getD_eq_getElem?_getD, hk]; rfl
    have hcs := cntR_succ m i
    rw [hkd] at hcs
    have hpS : pOk n l m i → ∀ j, j < i + 1 → pOk n l m j := fun q j hj => by
      by_cases e : j = i
      · rw [e]; exact q
      · exact hp j (by omega)
    have hbadi : ¬ pOk n l m i → r = .tup [.int .i64 0, .bool false] := fun q => hbad (fun z => q (z.2.2 i hlt))
    simp [h1, h2, h6, h7, hlt, hltI, hVm, hat]
    by_cases d1 : k = -1
    · subst d1
      simp [h1, h2, h6, h7]
      exact turnA_self ⟨i + 1, by omega, by omega, hpS (.inl hk), by simp [h1, h2, h6, h7, hwi, hVm, hcs]⟩
    by_cases d2 : k < 0
    · have := hbadi (by
        rintro (q | ⟨k', q, q2, _⟩)
        · rw [hk] at q; exact d1 (Option.some.inj q)
        · rw [hk] at q; cases q; omega)
      simp [h1, h2, h6, h7, d1, d2]
      exact finA_drop (by rw [this])
    by_cases d3 : n ≤ k
    · have := hbadi (by
        rintro (q | ⟨k', q, q2, q3, _⟩)
        · rw [hk] at q; exact d1 (Option.some.inj q)
        · rw [hk] at q; cases q; omega)
      simp [h1, h2, h6, h7, d1, d2, d3]
      exact finA_drop (by rw [this])
    have hkl : k.toNat < m.length := by omega
    have hkl2 : k < (m.length : Int) := by omega
    have hk0 : 0 ≤ k := by omega
    obtain ⟨z, hz⟩ : ∃ z, m[k.toNat]? = some z := ⟨_, List.getElem?_eq_getElem hkl⟩
    have haz := intC_at hz
    by_cases d4 : z = (i : Int)
    rotate_left
    · have := hbadi (by
        rintro (q | ⟨k', q, q2, q3, q4, _⟩)
        · rw [hk] at q; exact d1 (Option.some.inj q)
        · rw [hk] at q; cases q; rw [hz] at q4; exact d4 (Option.some.inj q4))
      simp [h1, h2, h6, h7, d1, d2, d3, d4, hVm, hkl, hkl2, hk0, haz]
      exact finA_drop (by rw [this])
    subst d4
    simp [h1, h2, h6, h7, d1, d2, d3, hVm, hkl, hkl2, hk0, haz]
    refine (cj i k).use ?_
    obtain ⟨J, hJ⟩ : ∃ J, joinB l i k = J := ⟨_, rfl⟩
    simp [h1, h2, h6, h7, hJ]
    cases J with
    | false =>
      have := hbadi (by
        rintro (q | ⟨k', q, q2, q3, q4, q5⟩)
        · rw [hk] at q; exact d1 (Option.some.inj q)
        · rw [hk] at q; cases q; rw [hJ] at q5; cases q5)
      simp [h1, h2, h6, h7]
      exact finA_drop (by rw [this])
    | true =>
      have hok := hpS (.inr ⟨k, hk, hk0, by omega, hz, hJ⟩)
      simp [h1, h2, h6, h7]
      by_cases d5 : (i : Int) < k
      · rw [if_pos ⟨d1, d5⟩] at hcs
        have hcl := cntR_le m i
        have hw6 : IntKind.i64.wrap ((cntR m i : Int) + 1) = (cntR m (i + 1) : Int) := by rw [wrap_i64 (by omega) (by omega)]; omega
        simp [h1, h2, h6, h7, d5]
        exact turnA_self ⟨i + 1, by omega, by omega, hok, by simp [h1, h2, h6, h7, hwi, hVm, hw6]⟩
      · rw [if_neg (fun q => d5 q.2)] at hcs
        simp [h1, h2, h6, h7, d5]
        exact turnA_self ⟨i + 1, by omega, by omega, hok, by simp [h1, h2, h6, h7, hwi, hVm, hcs]⟩
  · obtain rfl : i = m.length := by omega
    have : r = .tup [.int .i64 (cntR m m.length), .bool true] := by rw [hr, isPR, if_pos ⟨c0, c1, hp⟩]
    simp [h1, h2, h6, h7, -lenA, lenA_intL]
    exact finA_drop (by rw [this])
end Go.Proofs
