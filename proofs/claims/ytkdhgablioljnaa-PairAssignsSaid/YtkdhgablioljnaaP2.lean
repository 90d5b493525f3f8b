/-
  Texts: PaF PaG PaH PaI.
-/
import Derived.Test.YtkdhgablioljnaaP1
import Derived.Test.YtkdhgablioljnaaAhDk
set_option linter.unusedSimpArgs false
set_option linter.unusedVariables false
set_option linter.unusedSectionVars false
section
/-
  Pair: whether numbers are a pairing.
-/
namespace Go.Proofs
open Go Go.AH
set_option maxRecDepth 10000
set_option maxHeartbeats 4000000

theorem joinB_key {l : List Ed} {a b : Int} : l.any (fun e => decide (mnE e = mnE (a, b)) && decide (mxE e = mxE (a, b))) = joinB l a b := by
  rw [Bool.eq_iff_iff, joinB_iff, List.any_eq_true]
  constructor
  · rintro ⟨e, he, q⟩
    simp at q
    exact ⟨e, he, sameE_iff.2 q⟩
  · rintro ⟨e, he, q⟩
    exact ⟨e, he, by simpa using sameE_iff.1 q⟩
/-- What is asked of the number of point i. -/
def pOk (n : Int) (l : List Ed) (m : List Int) (i : Nat) : Prop := m[i]? = some (-1) ∨ ∃ k, m[i]? = some k ∧ 0 ≤ k ∧ k < n ∧ m[k.toNat]? = some (i : Int) ∧ joinB l i k = true
def cntR (m : List Int) (k : Nat) : Nat := ((List.range k).filter fun a => decide (m.getD a (-1) ≠ -1) && decide ((a : Int) < m.getD a (-1))).length
def cntP (m : List Int) (k : Nat) : Nat := ((List.range k).filter fun a => decide (m.getD a (-1) ≠ -1)).length
theorem cntR_succ (m : List Int) (k : Nat) : cntR m (k + 1) = cntR m k + (if m.getD k (-1) ≠ -1 ∧ (k : Int) < m.getD k (-1) then 1 else 0) := by
  unfold cntR
  rw [List.range_succ, List.filter_append, List.length_append]
  congr 1
  simp only [List.filter_cons, List.filter_nil]
  by_cases h : m.getD k (-1) ≠ -1 ∧ (k : Int) < m.getD k (-1)
  · rw [if_pos h, if_pos (by simpa using h)]; rfl
  · rw [if_neg h, if_neg (by simpa using h)]; rfl
theorem cntP_succ (m : List Int) (k : Nat) : cntP m (k + 1) = cntP m k + (if m.getD k (-1) ≠ -1 then 1 else 0) := by
  unfold cntP
  rw [List.range_succ, List.filter_append, List.length_append]
  congr 1
  simp only [List.filter_cons, List.filter_nil]
  by_cases h : m.getD k (-1) ≠ -1
  · rw [if_pos h, if_pos (by simpa using h)]; rfl
  · rw [if_neg h, if_neg (by simpa using h)]; rfl
theorem cntR_le (m : List Int) (k : Nat) : cntR m k ≤ k := by
  have := List.length_filter_le (fun a : Nat => decide (m.getD a (-1) ≠ -1) && decide ((a : Int) < m.getD a (-1))) (List.range k)
  simpa [cntR] using this
theorem cntP_le (m : List Int) (k : Nat) : cntP m k ≤ k := by
  have := List.length_filter_le (fun a : Nat => decide (m.getD a (-1) ≠ -1)) (List.range k)
  simpa [cntP] using this
open Classical in
noncomputable def isPR (n : Int) (l : List Ed) (m : List Int) : AV := if chkG n l = 0 ∧ (m.length : Int) = n ∧ ∀ i, i < m.length → pOk n l m i then .tup [.int .i64 (cntR m m.length), .bool true] else .tup [.int .i64 0, .bool false]
open Classical in
noncomputable def isPP (n : Int) (l : List Ed) (m : List Int) : AV := if chkG n l = 0 ∧ (m.length : Int) = n ∧ ∀ i, i < m.length → pOk n l m i then .tup [.int .i64 ((cntP m m.length / 2 : Nat) : Int), .bool true] else .tup [.int .i64 0, .bool false]
theorem chk_cases (n : Int) (l : List Ed) : chkG n l = 0 ∨ chkG n l = 40 := by
  unfold chkG; split <;> simp
theorem chk_zero {n : Int} {l : List Ed} (h : chkG n l = 0) : 1 ≤ n ∧ n ≤ 40 ∧ l.length ≤ 300 ∧ GOk n l := by
  unfold chkG at h; split at h
  · assumption
  · cases h

theorem w_RIsPairing (n : Int) (l : List Ed) (hl : l.length ≤ 1000000) (m : List Int) (hm : m.length ≤ 1000000) : Pure Try.prog 26 [gV n l, intL m] (isPR n l m) := by
  refine pure_of (acalls_of Try.func26 rfl Try.call26 (by kernel_rfl) (by show _ ≤ (60 : Nat); simp) ?_)
  have ck := w_RCheck n l hl
  have cj := fun a b => w_Joined n l hl a b
  obtain ⟨r, hr⟩ : ∃ r, r = isPR n l m := ⟨_, rfl⟩
  rw [← hr]
  obtain ⟨V, hV⟩ : ∃ V, V = edL l := ⟨_, rfl⟩
  have hV1 : V.one = true := by rw [hV]; simp
  have hV2 : V.fit = true := by rw [hV]; simp
  have hV3 : V.cells = [V] := by rw [hV]; simp
  have hg : gV n l = .agg [.int .i64 n, V] := by rw [hV]; rfl
  rw [hg] at ck cj ⊢
  have hbad : ¬ (chkG n l = 0 ∧ (m.length : Int) = n ∧ ∀ i, i < m.length → pOk n l m i) → r = .tup [.int .i64 0, .bool false] := fun q => by rw [hr, isPR, if_neg q]
  simp [hV1, hV2, hV3]
  intro b2 hb2
  simp
  refine ck.use ?_
  rcases chk_cases n l with c0 | c0
  rotate_left
  · have := hbad (fun q => by rw [c0] at q; exact absurd q.1 (by decide))
    simp [c0]
    exact finA_drop (by rw [this])
  obtain ⟨k1, k2, k3, k4⟩ := chk_zero c0
  by_cases c1 : (m.length : Int) = n
  rotate_left
  · have := hbad (fun q => c1 q.2.1)
    simp [c0, c1, -lenA, lenA_intL]
    exact finA_drop (by rw [this])
  simp [c0, c1, -lenA, lenA_intL]
  refine awp_loop_g (γ := Nat) (fun i t h => (i ≤ m.length) ∧ (∀ j, j < i → pOk n l m j) ∧ t 1 = intL m ∧ t 2 = .ptr b2 0 ∧ t 6 = .int .i64 (cntR m i) ∧ t 7 = .int .i64 i ∧ h = AHeap.empty.upd b2 (.cells [.int .i64 n, V])) (fun i => m.length - i) (0) (turnA_self (by simp [cntR])) ?_
  rintro i t h ⟨hi, hp, h1, h2, h6, h7, rfl⟩
  by_cases hlt : i < m.length
  · have hltI : (i : Int) < (m.length : Int) := by omega
    have hwi : IntKind.i64.wrap ((i : Int) + 1) = (i : Int) + 1 := wrap_i64 (by omega) (by omega)
    have hVm := intL_ne hlt
    obtain ⟨k, hk⟩ : ∃ k, m[i]? = some k := ⟨_, List.getElem?_eq_getElem hlt⟩
    have hat := intC_at hk
    have hkd : m.getD i (-1) = k := by rw [List.getD_eq_getElem?_getD, hk]; rfl
    have hcs := cntR_succ m i
    rw [hkd] at hcs
    have hpS : pOk n l m i → ∀ j, j < i + 1 → pOk n l m j := fun q j hj => by
      by_cases e : j = i
      · rw [e]; exact q
      · exact hp j (by omega)
    have hbadi : ¬ pOk n l m i → r = .tup [.int .i64 0, .bool false] := fun q => hbad (fun z => q (z.2.2 i hlt))
    simp [h1, h2, h6, h7, hlt, hltI, hVm, hat]
    by_cases d1 : k = -1
    · subst d1
      simp [h1, h2, h6, h7]
      exact turnA_self ⟨i + 1, by omega, by omega, hpS (.inl hk), by simp [h1, h2, h6, h7, hwi, hVm, hcs]⟩
    by_cases d2 : k < 0
    · have := hbadi (by
        rintro (q | ⟨k', q, q2, _⟩)
        · rw [hk] at q; exact d1 (Option.some.inj q)
        · rw [hk] at q; cases q; omega)
      simp [h1, h2, h6, h7, d1, d2]
      exact finA_drop (by rw [this])
    by_cases d3 : n ≤ k
    · have := hbadi (by
        rintro (q | ⟨k', q, q2, q3, _⟩)
        · rw [hk] at q; exact d1 (Option.some.inj q)
        · rw [hk] at q; cases q; omega)
      simp [h1, h2, h6, h7, d1, d2, d3]
      exact finA_drop (by rw [this])
    have hkl : k.toNat < m.length := by omega
    have hkl2 : k < (m.length : Int) := by omega
    have hk0 : 0 ≤ k := by omega
    obtain ⟨z, hz⟩ : ∃ z, m[k.toNat]? = some z := ⟨_, List.getElem?_eq_getElem hkl⟩
    have haz := intC_at hz
    by_cases d4 : z = (i : Int)
    rotate_left
    · have := hbadi (by
        rintro (q | ⟨k', q, q2, q3, q4, _⟩)
        · rw [hk] at q; exact d1 (Option.some.inj q)
        · rw [hk] at q; cases q; rw [hz] at q4; exact d4 (Option.some.inj q4))
      simp [h1, h2, h6, h7, d1, d2, d3, d4, hVm, hkl, hkl2, hk0, haz]
      exact finA_drop (by rw [this])
    subst d4
    simp [h1, h2, h6, h7, d1, d2, d3, hVm, hkl, hkl2, hk0, haz]
    refine (cj i k).use ?_
    obtain ⟨J, hJ⟩ : ∃ J, joinB l i k = J := ⟨_, rfl⟩
    simp [h1, h2, h6, h7, hJ]
    cases J with
    | false =>
      have := hbadi (by
        rintro (q | ⟨k', q, q2, q3, q4, q5⟩)
        · rw [hk] at q; exact d1 (Option.some.inj q)
        · rw [hk] at q; cases q; rw [hJ] at q5; cases q5)
      simp [h1, h2, h6, h7]
      exact finA_drop (by rw [this])
    | true =>
      have hok := hpS (.inr ⟨k, hk, hk0, by omega, hz, hJ⟩)
      simp [h1, h2, h6, h7]
      by_cases d5 : (i : Int) < k
      · rw [if_pos ⟨d1, d5⟩] at hcs
        have hcl := cntR_le m i
        have hw6 : IntKind.i64.wrap ((cntR m i : Int) + 1) = (cntR m (i + 1) : Int) := by rw [wrap_i64 (by omega) (by omega)]; omega
        simp [h1, h2, h6, h7, d5]
        exact turnA_self ⟨i + 1, by omega, by omega, hok, by simp [h1, h2, h6, h7, hwi, hVm, hw6]⟩
      · rw [if_neg (fun q => d5 q.2)] at hcs
        simp [h1, h2, h6, h7, d5]
        exact turnA_self ⟨i + 1, by omega, by omega, hok, by simp [h1, h2, h6, h7, hwi, hVm, hcs]⟩
  · obtain rfl : i = m.length := by omega
    have : r = .tup [.int .i64 (cntR m m.length), .bool true] := by rw [hr, isPR, if_pos ⟨c0, c1, hp⟩]
    simp [h1, h2, h6, h7, -lenA, lenA_intL]
    exact finA_drop (by rw [this])
end Go.Proofs

end

section
/-
  Pair: whether numbers are a pairing, by the program; both answer alike.
-/
namespace Go.Proofs
open Go Go.AH
set_option maxRecDepth 10000
set_option maxHeartbeats 4000000

theorem w_IsPairing (n : Int) (l : List Ed) (hl : l.length ≤ 1000000) (m : List Int) (hm : m.length ≤ 1000000) : Pure Try.prog 25 [gV n l, intL m] (isPP n l m) := by
  refine pure_of (acalls_of Try.func25 rfl Try.call25 (by kernel_rfl) (by show _ ≤ (84 : Nat); simp) ?_)
  have ck := w_Check n l hl
  obtain ⟨r, hr⟩ : ∃ r, r = isPP n l m := ⟨_, rfl⟩
  rw [← hr]
  obtain ⟨V, hV⟩ : ∃ V, V = edL l := ⟨_, rfl⟩
  have hV1 : V.one = true := by rw [hV]; simp
  have hV2 : V.fit = true := by rw [hV]; simp
  have hV3 : V.cells = [V] := by rw [hV]; simp
  have hlen : ∀ h : AHeap, lenA Try.prog h 42 V = some (.int .i64 (l.length : Int)) := fun h => by rw [hV]; exact lenA_edL l
  have hg : gV n l = .agg [.int .i64 n, V] := by rw [hV]; rfl
  rw [hg] at ck ⊢
  have hbad : ¬ (chkG n l = 0 ∧ (m.length : Int) = n ∧ ∀ i, i < m.length → pOk n l m i) → r = .tup [.int .i64 0, .bool false] := fun q => by rw [hr, isPP, if_neg q]
  simp [hV1, hV2, hV3]
  intro b2 hb2
  simp
  refine ck.use ?_
  rcases chk_cases n l with c0 | c0
  rotate_left
  · have := hbad (fun q => by rw [c0] at q; exact absurd q.1 (by decide))
    simp [c0]
    exact finA_drop (by rw [this])
  obtain ⟨k1, k2, k3, k4⟩ := chk_zero c0
  by_cases c1 : (m.length : Int) = n
  rotate_left
  · have := hbad (fun q => c1 q.2.1)
    simp [c0, c1, -lenA, lenA_intL]
    exact finA_drop (by rw [this])
  simp [c0, c1, -lenA, lenA_intL]
  intro bm hbm
  simp at hbm
  simp [hbm, -lenA, hlen]
  refine awp_loop_g (γ := Nat) (fun i t h => (i ≤ l.length) ∧ t 1 = intL m ∧ t 2 = .ptr b2 0 ∧ t 4 = .int .i64 0 ∧ t 6 = .map bm ∧ t 23 = V ∧ t 24 = .int .i64 l.length ∧ t 25 = .int .i64 i ∧ h = (AHeap.empty.upd b2 (.cells [.int .i64 n, V])).upd bm (.map edSh (edM (l.take i)))) (fun i => l.length - i) (0) (turnA_self (by simp [edM, hbm])) ?_
  rintro i t h ⟨hi, h1, h2, h4, h6, h23, h24, h25, rfl⟩
  by_cases hlt : i < l.length
  · have hltI : (i : Int) < (l.length : Int) := by omega
    have hwi : IntKind.i64.wrap ((i : Int) + 1) = (i : Int) + 1 := wrap_i64 (by omega) (by omega)
    have hVs : V = .sl l.length (edC l) := by rw [hV]; exact edL_ne hlt
    obtain ⟨x, hx⟩ : ∃ x, l[i]? = some x := ⟨_, List.getElem?_eq_getElem hlt⟩
    have hat := edC_at hx
    have hi3 : 2 ≤ l.length * 2 - i * 2 := by omega
    have hi4 : min 2 (l.length * 2 - i * 2) = 2 := by omega
    rw [hVs] at hV1 hV2 hV3 hlen ⊢
    have hmn : (if x.2 < x.1 then x.2 else x.1) = mnE x := rfl
    have hmx : (if x.1 < x.2 then x.2 else x.1) = mxE x := rfl
    have hn : ∀ y ∈ l.take i, ¬ sameE y x := by
      have := GOk.snoc.1 (take_snoc hx ▸ k4.take (i + 1))
      exact this.2.2
    have hset := edM_set hn
    rw [← take_snoc hx] at hset
    unfold keyE at hset
    simp [h1, h2, h4, h6, h23, h24, h25, hVs, hlt, hltI, hat, hi3, hi4]
    intro b5 hb5
    simp [hbm] at hb5
    simp [h1, h2, h4, h6, h23, h24, h25, hb5, hbm, hmn, hmx, splice, hset]
    refine turnA_to ((AHeap.empty.upd b2 (.cells [.int .i64 n, .sl l.length (edC l)])).upd bm (.map edSh (edM (l.take (i + 1))))) ?_ ⟨i + 1, by omega, by omega, by simp [h1, h2, h4, h6, h23, h24, h25, hwi, hVs]⟩
    exact Drop.new (Drop.refl _) (by simp [hb5])
  obtain rfl : i = l.length := by omega
  rw [List.take_length]
  simp [h1, h2, h4, h6, h23, h24, h25, -lenA, lenA_intL]
  refine awp_loop_g (γ := Nat) (fun i t h => (i ≤ m.length) ∧ (∀ j, j < i → pOk n l m j) ∧ t 1 = intL m ∧ t 2 = .ptr b2 0 ∧ t 4 = .int .i64 (cntP m i) ∧ t 6 = .map bm ∧ t 42 = intL m ∧ t 43 = .int .i64 m.length ∧ t 44 = .int .i64 i ∧ h = (AHeap.empty.upd b2 (.cells [.int .i64 n, V])).upd bm (.map edSh (edM l))) (fun i => m.length - i) (0) (turnA_self (by simp [h1, h2, h4, h6, h23, h24, h25, cntP])) ?_
  rintro i t h ⟨hi2, hp, h1, h2, h4, h6, h42, h43, h44, rfl⟩
  by_cases hlt2 : i < m.length
  · have hltI : (i : Int) < (m.length : Int) := by omega
    have hwi : IntKind.i64.wrap ((i : Int) + 1) = (i : Int) + 1 := wrap_i64 (by omega) (by omega)
    have hVm := intL_ne hlt2
    obtain ⟨k, hk⟩ : ∃ k, m[i]? = some k := ⟨_, List.getElem?_eq_getElem hlt2⟩
    have hat := intC_at hk
    have hkd : m.getD i (-1) = k := by rw [List.getD_eq_getElem?_getD, hk]; rfl
    have hcs := cntP_succ m i
    rw [hkd] at hcs
    have hpS : pOk n l m i → ∀ j, j < i + 1 → pOk n l m j := fun q j hj => by
      by_cases e : j = i
      · rw [e]; exact q
      · exact hp j (by omega)
    have hbadi : ¬ pOk n l m i → r = .tup [.int .i64 0, .bool false] := fun q => hbad (fun z => q (z.2.2 i hlt2))
    simp [h1, h2, h4, h6, h42, h43, h44, hlt2, hltI, hVm, hat]
    by_cases d1 : k = -1
    · subst d1
      simp [h1, h2, h4, h6, h42, h43, h44]
      exact turnA_self ⟨i + 1, by omega, by omega, hpS (.inl hk), by simp [h1, h2, h4, h6, h42, h43, h44, hwi, hVm, hcs]⟩
    by_cases d2 : k < 0
    · have := hbadi (by
        rintro (q | ⟨k', q, q2, _⟩)
        · rw [hk] at q; exact d1 (Option.some.inj q)
        · rw [hk] at q; cases q; omega)
      simp [h1, h2, h4, h6, h42, h43, h44, d1, d2]
      exact finA_drop (by rw [this])
    by_cases d3 : n ≤ k
    · have := hbadi (by
        rintro (q | ⟨k', q, q2, q3, _⟩)
        · rw [hk] at q; exact d1 (Option.some.inj q)
        · rw [hk] at q; cases q; omega)
      simp [h1, h2, h4, h6, h42, h43, h44, d1, d2, d3, hbm]
      exact finA_drop (by rw [this])
    have hkl : k.toNat < m.length := by omega
    have hkl2 : k < (m.length : Int) := by omega
    have hk0 : 0 ≤ k := by omega
    obtain ⟨z, hz⟩ : ∃ z, m[k.toNat]? = some z := ⟨_, List.getElem?_eq_getElem hkl⟩
    have haz := intC_at hz
    by_cases d4 : z = (i : Int)
    rotate_left
    · have := hbadi (by
        rintro (q | ⟨k', q, q2, q3, q4, _⟩)
        · rw [hk] at q; exact d1 (Option.some.inj q)
        · rw [hk] at q; cases q; rw [hz] at q4; exact d4 (Option.some.inj q4))
      simp [h1, h2, h4, h6, h42, h43, h44, d1, d2, d3, d4, hVm, hkl, hkl2, hk0, haz, hbm]
      exact finA_drop (by rw [this])
    subst d4
    have hmn : (if k < (i : Int) then k else (i : Int)) = mnE ((i : Int), k) := rfl
    have hmx : (if (i : Int) < k then k else (i : Int)) = mxE ((i : Int), k) := rfl
    obtain ⟨J, hJ⟩ : ∃ J, joinB l i k = J := ⟨_, rfl⟩
    have hget := edM_get (a := mnE ((i : Int), k)) (b := mxE ((i : Int), k)) l
    rw [joinB_key, hJ] at hget
    simp [h1, h2, h4, h6, h42, h43, h44, d1, d2, d3, hVm, hkl, hkl2, hk0, haz, hmn, hmx, hget, hbm]
    cases J with
    | false =>
      have := hbadi (by
        rintro (q | ⟨k', q, q2, q3, q4, q5⟩)
        · rw [hk] at q; exact d1 (Option.some.inj q)
        · rw [hk] at q; cases q; rw [hJ] at q5; cases q5)
      simp [h1, h2, h4, h6, h42, h43, h44]
      exact finA_drop (by rw [this])
    | true =>
      have hok := hpS (.inr ⟨k, hk, hk0, by omega, hz, hJ⟩)
      rw [if_pos d1] at hcs
      have hcl := cntP_le m i
      have hw6 : IntKind.i64.wrap ((cntP m i : Int) + 1) = (cntP m (i + 1) : Int) := by rw [wrap_i64 (by omega) (by omega)]; omega
      simp [h1, h2, h4, h6, h42, h43, h44]
      exact turnA_self ⟨i + 1, by omega, by omega, hok, by simp [h1, h2, h4, h6, h42, h43, h44, hwi, hVm, hw6]⟩
  · obtain rfl : i = m.length := by omega
    have : r = .tup [.int .i64 ((cntP m m.length / 2 : Nat) : Int), .bool true] := by rw [hr, isPP, if_pos ⟨c0, c1, hp⟩]
    have hcl := cntP_le m m.length
    have hq : IntKind.i64.wrap ((cntP m m.length : Int) / 2) = (cntP m m.length : Int) / 2 := wrap_i64 (by omega) (by omega)
    simp [h1, h2, h4, h6, h42, h43, h44, hq]
    exact finA_drop (by rw [this]; simp)

/-! ### Both alike -/
theorem nodup_sub_len {α : Type} [DecidableEq α] : ∀ (l m : List α), l.Nodup → (∀ x ∈ l, x ∈ m) → l.length ≤ m.length
  | [], _, _, _ => Nat.zero_le _
  | x :: l, m, hn, hs => by
    have hx := hs x (by simp)
    have hn' := List.nodup_cons.1 hn
    have := nodup_sub_len l (m.erase x) hn'.2 (fun y hy => by
      have hne : y ≠ x := fun e => hn'.1 (e ▸ hy)
      exact (List.mem_erase_of_ne hne).2 (hs y (by simp [hy])))
    rw [List.length_erase_of_mem hx] at this
    have hpos : 0 < m.length := List.length_pos_of_mem hx
    simp only [List.length_cons]
    omega
theorem filter_map_le {n : Nat} (p q : Nat → Bool) (f : Nat → Nat) (hf : ∀ a, a < n → p a = true → f a < n ∧ q (f a) = true) (hi : ∀ a b, a < n → b < n → p a = true → p b = true → f a = f b → a = b) :
    ((List.range n).filter p).length ≤ ((List.range n).filter q).length := by
  have h1 : (((List.range n).filter p).map f).Nodup := by
    unfold List.Nodup
    rw [List.pairwise_map]
    refine List.Pairwise.imp_of_mem (fun {a b} ha hb hne e => hne ?_) ((List.nodup_range (n := n)).filter _)
    have ha := List.mem_filter.1 ha
    have hb := List.mem_filter.1 hb
    exact hi a b (List.mem_range.1 ha.1) (List.mem_range.1 hb.1) ha.2 hb.2 e
  have := nodup_sub_len (((List.range n).filter p).map f) ((List.range n).filter q) h1 (fun x hx => by
    obtain ⟨a, ha, rfl⟩ := List.mem_map.1 hx
    have ha := List.mem_filter.1 ha
    obtain ⟨h2, h3⟩ := hf a (List.mem_range.1 ha.1) ha.2
    exact List.mem_filter.2 ⟨List.mem_range.2 h2, h3⟩)
  simpa using this
theorem pairs_half {n : Int} {l : List Ed} {m : List Int} (g : GOk n l) (hlen : (m.length : Int) = n) (hp : ∀ i, i < m.length → pOk n l m i) : cntP m m.length = 2 * cntR m m.length := by
  -- the partner
  have part : ∀ a, a < m.length → m.getD a (-1) ≠ -1 → ∃ b : Nat, m.getD a (-1) = (b : Int) ∧ b < m.length ∧ m.getD b (-1) = (a : Int) ∧ b ≠ a := by
    intro a ha hne
    rcases hp a ha with q | ⟨k, q1, q2, q3, q4, q5⟩
    · exfalso; apply hne; rw [List.getD_eq_getElem?_getD, q]; rfl
    · refine ⟨k.toNat, ?_, by omega, ?_, fun e => ?_⟩
      · rw [List.getD_eq_getElem?_getD, q1]; simp; omega
      · rw [List.getD_eq_getElem?_getD, q4]; rfl
      · obtain ⟨y, hy, hs⟩ := joinB_iff.1 q5
        have := (g.ed y hy).2.2.2.2
        unfold sameE at hs
        simp only at hs
        omega
  obtain ⟨M, hM⟩ : ∃ M, M = m.length := ⟨_, rfl⟩
  have e1 : ((List.range M).filter fun a => decide (m.getD a (-1) ≠ -1) && decide ((a : Int) < m.getD a (-1))).length = ((List.range M).filter fun a => decide (m.getD a (-1) ≠ -1) && decide (m.getD a (-1) < (a : Int))).length := by
    refine Nat.le_antisymm (filter_map_le _ _ (fun a => (m.getD a (-1)).toNat) ?_ ?_) (filter_map_le _ _ (fun a => (m.getD a (-1)).toNat) ?_ ?_)
    · intro a ha h
      simp at h
      obtain ⟨b, h1, h2, h3, h4⟩ := part a (by omega) (by simpa [List.getD_eq_getElem?_getD] using h.1)
      simp only [h1, Int.toNat_natCast, h3]
      have : (m[a]?).getD (-1) = (b : Int) := by rw [← List.getD_eq_getElem?_getD]; exact h1
      rw [this] at h
      refine ⟨by omega, by simp; omega⟩
    · intro a b ha hb h1 h2 e
      simp at h1 h2
      obtain ⟨x, x1, x2, x3, x4⟩ := part a (by omega) (by simpa [List.getD_eq_getElem?_getD] using h1.1)
      obtain ⟨y, y1, y2, y3, y4⟩ := part b (by omega) (by simpa [List.getD_eq_getElem?_getD] using h2.1)
      simp only [x1, y1, Int.toNat_natCast] at e
      subst e
      rw [x3] at y3; omega
    · intro a ha h
      simp at h
      obtain ⟨b, h1, h2, h3, h4⟩ := part a (by omega) (by simpa [List.getD_eq_getElem?_getD] using h.1)
      simp only [h1, Int.toNat_natCast, h3]
      have : (m[a]?).getD (-1) = (b : Int) := by rw [← List.getD_eq_getElem?_getD]; exact h1
      rw [this] at h
      refine ⟨by omega, by simp; omega⟩
    · intro a b ha hb h1 h2 e
      simp at h1 h2
      obtain ⟨x, x1, x2, x3, x4⟩ := part a (by omega) (by simpa [List.getD_eq_getElem?_getD] using h1.1)
      obtain ⟨y, y1, y2, y3, y4⟩ := part b (by omega) (by simpa [List.getD_eq_getElem?_getD] using h2.1)
      simp only [x1, y1, Int.toNat_natCast] at e
      subst e
      rw [x3] at y3; omega
  have e2 : ∀ L : List Nat, (∀ a ∈ L, a < m.length) → (L.filter fun a => decide (m.getD a (-1) ≠ -1)).length = (L.filter fun a => decide (m.getD a (-1) ≠ -1) && decide ((a : Int) < m.getD a (-1))).length + (L.filter fun a => decide (m.getD a (-1) ≠ -1) && decide (m.getD a (-1) < (a : Int))).length := by
    intro L
    induction L with
    | nil => intro _; rfl
    | cons a L ih =>
      intro hL
      have ih := ih (fun x hx => hL x (by simp [hx]))
      simp only [List.filter_cons]
      simp only [ne_eq] at ih ⊢
      by_cases h : m.getD a (-1) = -1
      · simp only [h, ne_eq, not_true, decide_false, Bool.false_and, Bool.false_eq_true, if_false]; exact ih
      · obtain ⟨b, h1, h2, h3, h4⟩ := part a (hL a (by simp)) h
        rw [h1] at h ⊢
        by_cases hlt : (a : Int) < b
        · have hlt' : ¬ (b : Int) < a := by omega
          simp only [ne_eq, h, not_false_eq_true, decide_true, hlt, hlt', decide_false, Bool.and_true, Bool.and_false, Bool.false_eq_true, if_true, if_false, List.length_cons]
          omega
        · have hlt' : (b : Int) < a := by omega
          simp only [ne_eq, h, not_false_eq_true, decide_true, hlt, hlt', decide_false, Bool.and_true, Bool.and_false, Bool.false_eq_true, if_true, if_false, List.length_cons]
          omega
  unfold cntP cntR
  rw [e2 (List.range m.length) (fun a ha => List.mem_range.1 ha)]
  rw [← hM, ← e1]
  omega
theorem isP_same (n : Int) (l : List Ed) (m : List Int) : isPP n l m = isPR n l m := by
  unfold isPP isPR
  split
  · next h =>
    obtain ⟨_, _, _, g⟩ := chk_zero h.1
    rw [pairs_half g h.2.1 h.2.2]
    congr 3
    rw [Nat.mul_div_cancel_left _ (by omega)]
  · rfl
end Go.Proofs

end

section
/-
  Pair: the cells of a finder.
-/
namespace Go.Proofs
open Go Go.AH
set_option maxRecDepth 10000
set_option maxHeartbeats 4000000

def upf {α : Type} (f : Nat → α) (k : Nat) (x : α) : Nat → α := fun i => if i = k then x else f i
@[simp] theorem upf_same {α : Type} (f : Nat → α) (k : Nat) (x : α) : upf f k x k = x := by simp [upf]
theorem upf_ne {α : Type} (f : Nat → α) {k i : Nat} (x : α) (h : i ≠ k) : upf f k x i = f i := by simp [upf, h]
def iarr (n : Nat) (f : Nat → Int) : List AV := (List.range n).map fun i => AV.int .i64 (f i)
def barr (n : Nat) (f : Nat → Bool) : List AV := (List.range n).map fun i => AV.bool (f i)
def rarr (n : Nat) (r : Nat → AV) : List AV := (List.range n).map r
theorem drop_of_get {l : List AV} {i : Nat} {x : AV} (e : l[i]? = some x) : l.drop i = x :: l.drop (i + 1) := by
  obtain ⟨h, rfl⟩ := List.getElem?_eq_some_iff.1 e
  exact List.drop_eq_getElem_cons h

@[simp] theorem iarr_length {n : Nat} {f : Nat → Int} : (iarr n f).length = n := by simp [iarr]
theorem iarr_get {n k : Nat} {f : Nat → Int} (hk : k < n) : (iarr n f)[k]? = some (.int .i64 (f k)) := by simp [iarr, hk]
theorem iarr_dr {n k : Nat} {f : Nat → Int} (hk : k < n) : (iarr n f).drop k = .int .i64 (f k) :: (iarr n f).drop (k + 1) := drop_of_get (iarr_get hk)
theorem iarr_set {n k : Nat} {f : Nat → Int} {x : Int} : (iarr n f).set k (.int .i64 x) = iarr n (upf f k x) := by
  refine List.ext_getElem (by simp) fun i h1 h2 => ?_
  simp only [iarr, List.getElem_set, List.getElem_map, List.getElem_range, upf]
  by_cases e : k = i
  · rw [if_pos e, if_pos e.symm]
  · rw [if_neg e, if_neg (fun q => e q.symm)]
theorem iarr_congr {n : Nat} {f g : Nat → Int} (e : ∀ i, i < n → f i = g i) : iarr n f = iarr n g := by
  refine List.ext_getElem (by simp) fun i h1 h2 => ?_
  simp at h1
  simp [iarr, e i h1]
@[simp] theorem barr_length {n : Nat} {f : Nat → Bool} : (barr n f).length = n := by simp [barr]
theorem barr_get {n k : Nat} {f : Nat → Bool} (hk : k < n) : (barr n f)[k]? = some (.bool (f k)) := by simp [barr, hk]
theorem barr_dr {n k : Nat} {f : Nat → Bool} (hk : k < n) : (barr n f).drop k = .bool (f k) :: (barr n f).drop (k + 1) := drop_of_get (barr_get hk)
theorem barr_set {n k : Nat} {f : Nat → Bool} {x : Bool} : (barr n f).set k (.bool x) = barr n (upf f k x) := by
  refine List.ext_getElem (by simp) fun i h1 h2 => ?_
  simp only [barr, List.getElem_set, List.getElem_map, List.getElem_range, upf]
  by_cases e : k = i
  · rw [if_pos e, if_pos e.symm]
  · rw [if_neg e, if_neg (fun q => e q.symm)]
theorem barr_congr {n : Nat} {f g : Nat → Bool} (e : ∀ i, i < n → f i = g i) : barr n f = barr n g := by
  refine List.ext_getElem (by simp) fun i h1 h2 => ?_
  simp at h1
  simp [barr, e i h1]
@[simp] theorem rarr_length {n : Nat} {f : Nat → AV} : (rarr n f).length = n := by simp [rarr]
theorem rarr_get {n k : Nat} {f : Nat → AV} (hk : k < n) : (rarr n f)[k]? = some (f k) := by simp [rarr, hk]
theorem rarr_dr {n k : Nat} {f : Nat → AV} (hk : k < n) : (rarr n f).drop k = f k :: (rarr n f).drop (k + 1) := drop_of_get (rarr_get hk)
theorem rarr_set {n k : Nat} {f : Nat → AV} {x : AV} : (rarr n f).set k (x) = rarr n (upf f k x) := by
  refine List.ext_getElem (by simp) fun i h1 h2 => ?_
  simp only [rarr, List.getElem_set, List.getElem_map, List.getElem_range, upf]
  by_cases e : k = i
  · rw [if_pos e, if_pos e.symm]
  · rw [if_neg e, if_neg (fun q => e q.symm)]
theorem rarr_congr {n : Nat} {f g : Nat → AV} (e : ∀ i, i < n → f i = g i) : rarr n f = rarr n g := by
  refine List.ext_getElem (by simp) fun i h1 h2 => ?_
  simp at h1
  simp [rarr, e i h1]
theorem iarr_frozen {n : Nat} {f : Nat → Int} : ∀ x ∈ iarr n f, x.frozen = true := by
  intro x hx; obtain ⟨a, _, rfl⟩ := List.mem_map.1 hx; rfl
theorem barr_frozen {n : Nat} {f : Nat → Bool} : ∀ x ∈ barr n f, x.frozen = true := by
  intro x hx; obtain ⟨a, _, rfl⟩ := List.mem_map.1 hx; rfl
theorem skip_get {A R : List AV} {a j : Nat} (h : A.length = a) : (A ++ R)[a + j]? = R[j]? := by rw [List.getElem?_append_right (by omega), h, Nat.add_sub_cancel_left]
theorem skip_set {A R : List AV} {a j : Nat} {x : AV} (h : A.length = a) : (A ++ R).set (a + j) x = A ++ R.set j x := by rw [List.set_append_right _ _ (by omega), h, Nat.add_sub_cancel_left]
/-- A finder's cells: how many points, rows, mates, parents, bases, outer points, queue. -/
def fC (n : Int) (rows : Nat → AV) (mate par base : Nat → Int) (out : Nat → Bool) (q : AV) : List AV := [.int .i64 n] ++ (rarr 40 rows ++ (iarr 40 mate ++ (iarr 40 par ++ (iarr 40 base ++ (barr 40 out ++ [q])))))
section
variable {n : Int} {rows : Nat → AV} {mate par base : Nat → Int} {out : Nat → Bool} {q : AV} {k : Nat}
@[simp] theorem fC_length : (fC n rows mate par base out q).length = 202 := by simp [fC]
theorem gt_n : (fC n rows mate par base out q)[0]? = some (.int .i64 n) := rfl
theorem dr_n : fC n rows mate par base out q = .int .i64 n :: (fC n rows mate par base out q).drop 1 := rfl
theorem gt_row (hk : k < 40) : (fC n rows mate par base out q)[1 + k]? = some (rows k) := by
  rw [show 1 + k = 1 + k from by omega]
  unfold fC
  rw [skip_get (a := 1) (by simp), List.getElem?_append_left (by simpa using hk), rarr_get hk]
theorem dr_row (hk : k < 40) : (fC n rows mate par base out q).drop (1 + k) = rows k :: (fC n rows mate par base out q).drop (1 + k + 1) := drop_of_get (gt_row hk)
theorem sp_row {x : AV} (hk : k < 40) : splice (fC n rows mate par base out q) (1 + k) [x] = fC n (upf rows k x) mate par base out q := by
  rw [splice_one (by simp; omega), show 1 + k = 1 + k from by omega]
  unfold fC
  rw [skip_set (a := 1) (by simp), List.set_append_left _ _ (by simpa using hk), rarr_set]
theorem gt_mate (hk : k < 40) : (fC n rows mate par base out q)[41 + k]? = some (.int .i64 (mate k)) := by
  rw [show 41 + k = 1 + (40 + k) from by omega]
  unfold fC
  rw [skip_get (a := 1) (by simp), skip_get (a := 40) (by simp), List.getElem?_append_left (by simpa using hk), iarr_get hk]
theorem dr_mate (hk : k < 40) : (fC n rows mate par base out q).drop (41 + k) = .int .i64 (mate k) :: (fC n rows mate par base out q).drop (41 + k + 1) := drop_of_get (gt_mate hk)
theorem sp_mate {x : Int} (hk : k < 40) : splice (fC n rows mate par base out q) (41 + k) [.int .i64 x] = fC n rows (upf mate k x) par base out q := by
  rw [splice_one (by simp; omega), show 41 + k = 1 + (40 + k) from by omega]
  unfold fC
  rw [skip_set (a := 1) (by simp), skip_set (a := 40) (by simp), List.set_append_left _ _ (by simpa using hk), iarr_set]
theorem gt_par (hk : k < 40) : (fC n rows mate par base out q)[81 + k]? = some (.int .i64 (par k)) := by
  rw [show 81 + k = 1 + (40 + (40 + k)) from by omega]
  unfold fC
  rw [skip_get (a := 1) (by simp), skip_get (a := 40) (by simp), skip_get (a := 40) (by simp), List.getElem?_append_left (by simpa using hk), iarr_get hk]
theorem dr_par (hk : k < 40) : (fC n rows mate par base out q).drop (81 + k) = .int .i64 (par k) :: (fC n rows mate par base out q).drop (81 + k + 1) := drop_of_get (gt_par hk)
theorem sp_par {x : Int} (hk : k < 40) : splice (fC n rows mate par base out q) (81 + k) [.int .i64 x] = fC n rows mate (upf par k x) base out q := by
  rw [splice_one (by simp; omega), show 81 + k = 1 + (40 + (40 + k)) from by omega]
  unfold fC
  rw [skip_set (a := 1) (by simp), skip_set (a := 40) (by simp), skip_set (a := 40) (by simp), List.set_append_left _ _ (by simpa using hk), iarr_set]
theorem gt_base (hk : k < 40) : (fC n rows mate par base out q)[121 + k]? = some (.int .i64 (base k)) := by
  rw [show 121 + k = 1 + (40 + (40 + (40 + k))) from by omega]
  unfold fC
  rw [skip_get (a := 1) (by simp), skip_get (a := 40) (by simp), skip_get (a := 40) (by simp), skip_get (a := 40) (by simp), List.getElem?_append_left (by simpa using hk), iarr_get hk]
theorem dr_base (hk : k < 40) : (fC n rows mate par base out q).drop (121 + k) = .int .i64 (base k) :: (fC n rows mate par base out q).drop (121 + k + 1) := drop_of_get (gt_base hk)
theorem sp_base {x : Int} (hk : k < 40) : splice (fC n rows mate par base out q) (121 + k) [.int .i64 x] = fC n rows mate par (upf base k x) out q := by
  rw [splice_one (by simp; omega), show 121 + k = 1 + (40 + (40 + (40 + k))) from by omega]
  unfold fC
  rw [skip_set (a := 1) (by simp), skip_set (a := 40) (by simp), skip_set (a := 40) (by simp), skip_set (a := 40) (by simp), List.set_append_left _ _ (by simpa using hk), iarr_set]
theorem gt_out (hk : k < 40) : (fC n rows mate par base out q)[161 + k]? = some (.bool (out k)) := by
  rw [show 161 + k = 1 + (40 + (40 + (40 + (40 + k)))) from by omega]
  unfold fC
  rw [skip_get (a := 1) (by simp), skip_get (a := 40) (by simp), skip_get (a := 40) (by simp), skip_get (a := 40) (by simp), skip_get (a := 40) (by simp), List.getElem?_append_left (by simpa using hk), barr_get hk]
theorem dr_out (hk : k < 40) : (fC n rows mate par base out q).drop (161 + k) = .bool (out k) :: (fC n rows mate par base out q).drop (161 + k + 1) := drop_of_get (gt_out hk)
theorem sp_out {x : Bool} (hk : k < 40) : splice (fC n rows mate par base out q) (161 + k) [.bool x] = fC n rows mate par base (upf out k x) q := by
  rw [splice_one (by simp; omega), show 161 + k = 1 + (40 + (40 + (40 + (40 + k)))) from by omega]
  unfold fC
  rw [skip_set (a := 1) (by simp), skip_set (a := 40) (by simp), skip_set (a := 40) (by simp), skip_set (a := 40) (by simp), skip_set (a := 40) (by simp), List.set_append_left _ _ (by simpa using hk), barr_set]
theorem gt_q : (fC n rows mate par base out q)[201]? = some q := by
  unfold fC
  rw [show 201 = 1 + (40 + (40 + (40 + (40 + (40 + 0))))) from rfl, skip_get (a := 1) (by simp), skip_get (a := 40) (by simp), skip_get (a := 40) (by simp), skip_get (a := 40) (by simp), skip_get (a := 40) (by simp), skip_get (a := 40) (by simp)]
  rfl
theorem dr_q : (fC n rows mate par base out q).drop 201 = [q] := by
  rw [drop_of_get gt_q, List.drop_of_length_le (by simp)]
theorem sp_q {x : AV} : splice (fC n rows mate par base out q) 201 [x] = fC n rows mate par base out x := by
  rw [splice_one (by simp)]
  unfold fC
  rw [show 201 = 1 + (40 + (40 + (40 + (40 + (40 + 0))))) from rfl, skip_set (a := 1) (by simp), skip_set (a := 40) (by simp), skip_set (a := 40) (by simp), skip_set (a := 40) (by simp), skip_set (a := 40) (by simp), skip_set (a := 40) (by simp)]
  rfl
theorem fC_rows : ((fC n rows mate par base out q).drop 1).take 40 = rarr 40 rows := by
  unfold fC
  rw [List.drop_append, List.drop_of_length_le (by simp), List.nil_append, show 1 - [AV.int .i64 n].length = 0 from rfl, List.drop_zero, List.take_append_of_le_length (by simp), List.take_of_length_le (by simp)]
theorem fC_mate : (fC n rows mate par base out q).drop 41 = iarr 40 mate ++ (iarr 40 par ++ (iarr 40 base ++ (barr 40 out ++ [q]))) := by
  unfold fC
  rw [List.drop_append, List.drop_of_length_le (by simp), List.nil_append, show 41 - [AV.int .i64 n].length = 40 from rfl, List.drop_append, List.drop_of_length_le (by simp), List.nil_append, show 40 - (rarr 40 rows).length = 0 from by simp, List.drop_zero]
theorem fC_one (hr : ∀ p, (rows p).one = true) (hq : q.one = true) : ∀ x ∈ fC n rows mate par base out q, x.one = true := by
  intro x hx
  simp only [fC, List.mem_append, List.mem_singleton, iarr, rarr, barr, List.mem_map] at hx
  rcases hx with rfl | ⟨a, _, rfl⟩ | ⟨a, _, rfl⟩ | ⟨a, _, rfl⟩ | ⟨a, _, rfl⟩ | ⟨a, _, rfl⟩ | rfl <;> first | rfl | exact hr _ | exact hq
theorem fC_map (f : AV → AV) (hf : ∀ n : Int, f (.int .i64 n) = .int .i64 n) (hb : ∀ b : Bool, f (.bool b) = .bool b) : (fC n rows mate par base out q).map f = fC n (fun p => f (rows p)) mate par base out (f q) := by
  simp [fC, iarr, rarr, barr, hf, hb, Function.comp_def]
end
theorem zeroF : zeroT Try.prog 112 = some (fC 0 (fun _ => .nilsl) (fun _ => 0) (fun _ => 0) (fun _ => 0) (fun _ => false) .nilsl) := by kernel_rfl
theorem zero107 : zeroT Try.prog 107 = some (rarr 40 fun _ => .nilsl) := by kernel_rfl
theorem zero109 : zeroT Try.prog 109 = some (iarr 40 fun _ => 0) := by kernel_rfl
theorem zero110 : zeroT Try.prog 110 = some (barr 40 fun _ => false) := by kernel_rfl
@[simp] theorem fC_set0 {n m : Int} {rows : Nat → AV} {mate par base : Nat → Int} {out : Nat → Bool} {q : AV} : (fC n rows mate par base out q).set 0 (.int .i64 m) = fC m rows mate par base out q := rfl
/-- Rows of neighbours. -/
def nbr (w : Int) (l : List Ed) (p : Nat) : List Int := l.flatMap fun e => if e.1 = w ∨ e.2 = w then [] else (if e.1 = (p : Int) then [e.2] else []) ++ (if e.2 = (p : Int) then [e.1] else [])
theorem nbr_snoc {w : Int} {l : List Ed} {e : Ed} {p : Nat} : nbr w (l ++ [e]) p = nbr w l p ++ (if e.1 = w ∨ e.2 = w then [] else (if e.1 = (p : Int) then [e.2] else []) ++ (if e.2 = (p : Int) then [e.1] else [])) := by simp [nbr]
theorem nbr_len {w : Int} {l : List Ed} {p : Nat} : (nbr w l p).length ≤ 2 * l.length := by
  induction l with
  | nil => simp [nbr]
  | cons e l ih =>
    have : nbr w (e :: l) p = (if e.1 = w ∨ e.2 = w then [] else (if e.1 = (p : Int) then [e.2] else []) ++ (if e.2 = (p : Int) then [e.1] else [])) ++ nbr w l p := rfl
    rw [this, List.length_append, List.length_cons]
    have : (if e.1 = w ∨ e.2 = w then [] else (if e.1 = (p : Int) then [e.2] else []) ++ (if e.2 = (p : Int) then [e.1] else [])).length ≤ 2 := by
      split
      · simp
      · split <;> split <;> simp
    omega
end Go.Proofs

end

section
/-
  Pair: a new finder.
-/
namespace Go.Proofs
open Go Go.AH
set_option maxRecDepth 10000
set_option maxHeartbeats 4000000

def growN (rb : Nat → Option Nat) (w : Int) (l : List Ed) (p : Nat) : AV := ownV (rb p) (nbr w l p).length 1
structure NJ (n w : Int) (V : AV) (W b2 : Nat) (l : List Ed) (mate : Nat → Int) (rb : Nat → Option Nat) (h : AHeap) : Prop where
  c2 : h b2 = some (.cells [.int .i64 n, V])
  cW : h W = some (.cells (fC n (growN rb w l) mate (fun _ => 0) (fun _ => 0) (fun _ => false) .nilsl))
  nil : ∀ p, rb p = none ↔ nbr w l p = []
  row : ∀ p q, rb p = some q → h q = some (.cells (intC (nbr w l p))) ∧ q ≠ W ∧ q ≠ b2
  inj : ∀ p p' q, rb p = some q → rb p' = some q → p = p'
theorem mem_blkS_ownV {o : Option Nat} {n es b : Nat} : b ∈ blkS (ownV o n es) ↔ o = some b := by
  cases o with
  | none => simp [blkS]
  | some x => simp [blkS, eq_comm]
theorem w_newFinder (n : Int) (l : List Ed) (w : Int) (hc : chkG n l = 0) :
    ACalls Try.prog 66 [gV n l, .int .i64 w] AHeap.empty fun r h' => ∃ W, r = .ptr W 0 ∧ h' = AHeap.empty.upd W (.cells (fC n (fun p => intL (nbr w l p)) (fun _ => -1) (fun _ => 0) (fun _ => 0) (fun _ => false) .nilsl)) := by
  refine acalls_of Try.func66 rfl Try.call66 (by kernel_rfl) (by show _ ≤ (75 : Nat); simp) ?_
  obtain ⟨k1, k2, k3, g⟩ := chk_zero hc
  obtain ⟨V, hV⟩ : ∃ V, V = edL l := ⟨_, rfl⟩
  have hV1 : V.one = true := by rw [hV]; simp
  have hV2 : V.fit = true := by rw [hV]; simp
  have hV3 : V.cells = [V] := by rw [hV]; simp
  have hlen : ∀ h : AHeap, lenA Try.prog h 42 V = some (.int .i64 (l.length : Int)) := fun h => by rw [hV]; exact lenA_edL l
  rw [show gV n l = .agg [.int .i64 n, V] from by rw [hV]; rfl]
  simp [hV1, hV2, hV3]
  intro b2 hb2
  simp [-Try.zeroT112, zeroF]
  intro W hW
  simp at hW
  have nW2 : ¬ b2 = W := fun q => hW.1 q.symm
  simp [hW, nW2, -lenA, hlen]
  refine awp_loop_g (γ := Nat) (fun i t h => (i ≤ l.length) ∧ (∃ rb, NJ n w V W b2 (l.take i) (fun _ => 0) rb h) ∧ t 1 = .int .i64 w ∧ t 5 = .ptr W 0 ∧ t 14 = V ∧ t 15 = .int .i64 l.length ∧ t 16 = .int .i64 i) (fun i => l.length - i) (0) (turnA_self ⟨Nat.zero_le _, ⟨fun _ => none, ⟨by simp [AHeap.upd, nW2], by simp [AHeap.upd]; rfl, fun p => by simp [nbr], (fun p q e => nomatch e), (fun p p' q e => nomatch e)⟩⟩, by simp⟩) ?_
  rintro i t h ⟨hi, hJ, h1, h5, h14, h15, h16⟩
  by_cases hlt : i < l.length
  · obtain ⟨rb, J⟩ := hJ
    obtain ⟨c2, cW, cn, cr, ci⟩ := J
    have hltI : (i : Int) < (l.length : Int) := by omega
    have hwi : IntKind.i64.wrap ((i : Int) + 1) = (i : Int) + 1 := wrap_i64 (by omega) (by omega)
    have hVs : V = .sl l.length (edC l) := by rw [hV]; exact edL_ne hlt
    obtain ⟨x, hx⟩ : ∃ x, l[i]? = some x := ⟨_, List.getElem?_eq_getElem hlt⟩
    have hat := edC_at hx
    have hi3 : 2 ≤ l.length * 2 - i * 2 := by omega
    have hi4 : min 2 (l.length * 2 - i * 2) = 2 := by omega
    have hok := g.ed x (List.mem_of_getElem? hx)
    have hts := take_snoc hx
    obtain ⟨p, hp⟩ : ∃ p : Nat, x.1 = p := ⟨x.1.toNat, by have := hok.1; omega⟩
    obtain ⟨q, hq⟩ : ∃ q : Nat, x.2 = q := ⟨x.2.toNat, by have := hok.2.2.1; omega⟩
    have hpq : p ≠ q := fun e => hok.2.2.2.2 (by rw [hp, hq, e])
    have hpqI : ¬ (p : Int) = (q : Int) := by omega
    have hqpI : ¬ (q : Int) = (p : Int) := by omega
    have hp40 : p < 40 := by have := hok.2.1; omega
    have hq40 : q < 40 := by have := hok.2.2.2.1; omega
    have d2 : ∀ off, cellsAt h b2 off = some (([.int .i64 n, V] : List AV).drop off) := fun off => cellsAt_eq c2
    have dW : ∀ off, cellsAt h W off = some ((fC n (growN rb w (l.take i)) (fun _ => 0) (fun _ => 0) (fun _ => 0) (fun _ => false) .nilsl).drop off) := fun off => cellsAt_eq cW
    have hnb : ∀ p' : Nat, nbr w (l.take (i + 1)) p' = nbr w (l.take i) p' ++ (if x.1 = w ∨ x.2 = w then [] else (if x.1 = (p' : Int) then [x.2] else []) ++ (if x.2 = (p' : Int) then [x.1] else [])) := fun p' => by rw [hts, nbr_snoc]
    simp [h1, h5, h14, h15, h16, hVs, hlt, hltI, hat, hi3, hi4]
    intro b7 hb7
    have m2 := ne_fresh (d2 0) hb7
    have mW := ne_fresh (dW 0) hb7
    have hb7h : h b7 = none := by simpa [Fresh] using hb7
    have same : x.1 = w ∨ x.2 = w → turnA (fun t' h' => ∃ g' : Nat, l.length - g' < l.length - i ∧ (g' ≤ l.length) ∧ (∃ rb, NJ n w V W b2 (l.take g') (fun _ => 0) rb h') ∧ t' 1 = .int .i64 w ∧ t' 5 = .ptr W 0 ∧ t' 14 = V ∧ t' 15 = .int .i64 l.length ∧ t' 16 = .int .i64 g') t (h.upd b7 (.cells [.int .i64 p, .int .i64 q])) → True := fun _ _ => trivial
    have skip : x.1 = w ∨ x.2 = w → NJ n w V W b2 (l.take (i + 1)) (fun _ => 0) rb h := fun e => by
      have hn2 : ∀ p', nbr w (l.take (i + 1)) p' = nbr w (l.take i) p' := fun p' => by rw [hnb, if_pos e, List.append_nil]
      have hgr : growN rb w (l.take (i + 1)) = growN rb w (l.take i) := by funext p'; unfold growN; rw [hn2]
      exact ⟨c2, by rw [hgr]; exact cW, fun p' => by rw [hn2]; exact cn p', fun p' q' e' => by rw [hn2]; exact cr p' q' e', ci⟩
    clear same
    simp [h1, h5, h14, h15, h16, m2, mW, hp, hq, splice]
    by_cases ew1 : (p : Int) = w
    · simp [h1, h5, h14, h15, h16, m2, mW, ew1]
      exact turnA_to h (Drop.new (Drop.refl _) hb7h) ⟨i + 1, by omega, by omega, ⟨rb, hVs ▸ skip (.inl (by rw [hp]; exact ew1))⟩, by simp [h1, h5, h14, h15, h16, hwi, hVs]⟩
    by_cases ew2 : (q : Int) = w
    · simp [h1, h5, h14, h15, h16, m2, mW, ew1, ew2]
      exact turnA_to h (Drop.new (Drop.refl _) hb7h) ⟨i + 1, by omega, by omega, ⟨rb, hVs ▸ skip (.inr (by rw [hq]; exact ew2))⟩, by simp [h1, h5, h14, h15, h16, hwi, hVs]⟩
    simp [h1, h5, h14, h15, h16, m2, mW, ew1, ew2]
    have hne : ¬ (x.1 = w ∨ x.2 = w) := by rw [hp, hq]; rintro (z | z); exact ew1 z; exact ew2 z
    have hna' : ∀ p' : Nat, nbr w (l.take (i + 1)) p' = nbr w (l.take i) p' ++ ((if p = p' then [(q : Int)] else []) ++ (if q = p' then [(p : Int)] else [])) := fun p' => by
      rw [hnb, if_neg hne, hp, hq]
      congr 1
      congr 1
      · by_cases z : p = p'
        · rw [if_pos z, if_pos (by rw [z])]
        · rw [if_neg z, if_neg (fun y => z (by omega))]
      · by_cases z : q = p'
        · rw [if_pos z, if_pos (by rw [z])]
        · rw [if_neg z, if_neg (fun y => z (by omega))]
    have hnp : nbr w (l.take (i + 1)) p = nbr w (l.take i) p ++ [(q : Int)] := by rw [hna', if_pos rfl, if_neg (fun e => hpq e.symm)]; rfl
    have hnq : nbr w (l.take (i + 1)) q = nbr w (l.take i) q ++ [(p : Int)] := by rw [hna', if_neg hpq, if_pos rfl]; rfl
    have hno : ∀ p', p' ≠ p → p' ≠ q → nbr w (l.take (i + 1)) p' = nbr w (l.take i) p' := fun p' z1 z2 => by rw [hna', if_neg (fun e => z1 e.symm), if_neg (fun e => z2 e.symm)]; simp
    have p40I : (p : Int) < 40 := by omega
    have q40I : (q : Int) < 40 := by omega
    obtain ⟨Ro, hRo⟩ : ∃ Ro, Ro = growN rb w (l.take i) := ⟨_, rfl⟩
    rw [← hRo] at dW
    obtain ⟨oa, hoa⟩ : ∃ oa, oa = rb p := ⟨_, rfl⟩
    obtain ⟨ob, hob⟩ : ∃ ob, ob = rb q := ⟨_, rfl⟩
    have hRp : Ro p = ownV oa (nbr w (l.take i) p).length 1 := by rw [hRo, hoa]; rfl
    have hRq : Ro q = ownV ob (nbr w (l.take i) q).length 1 := by rw [hRo, hob]; rfl
    have lena := nbr_len (w := w) (l := l.take i) (p := p)
    have lenb := nbr_len (w := w) (l := l.take i) (p := q)
    have htl : (l.take i).length ≤ 300 := by simp; omega
    have ca := fun x (e : oa = some x) => cr p x (hoa ▸ e)
    have cb := fun x (e : ob = some x) => cr q x (hob ▸ e)
    have b7r : ∀ p x, rb p = some x → x ≠ b7 := fun p x e => (ne_fresh (cellsAt_eq (off := 0) (cr p x e).1) hb7).1
    have ca7 := fun x (e : oa = some x) => b7r p x (hoa ▸ e)
    have cb7 := fun x (e : ob = some x) => b7r q x (hob ▸ e)
    have cab : ∀ x, oa = some x → ob = some x → False := fun x e1 e2 => hpq (ci p q x (hoa ▸ e1) (hob ▸ e2))
    obtain ⟨na, hna⟩ : ∃ na, na = (nbr w (l.take i) p).length := ⟨_, rfl⟩
    obtain ⟨nb, hnbl⟩ : ∃ nb, nb = (nbr w (l.take i) q).length := ⟨_, rfl⟩
    rw [← hna] at hRp lena
    rw [← hnbl] at hRq lenb
    have z5 : 1 + p ≤ 201 := by omega
    have z6 : 1 + q ≤ 201 := by omega
    refine awp_drawM (by kernel_rfl) (fun b => if b = W then 3 else if b = b7 then 4 else if oa = some b then 5 else if ob = some b then 6 else 0)
      [[], [], [4], [], [], [4], [], [], [4], [], [], [], [3], [], [4], [], [5, 0], [], [], [4], [], [], [], [3], [], [4], [], [6, 0], [], [], [], [3], [], [], [], [3]] (by kernel_rfl) (by kernel_rfl) ?_
    simp [h1, h5, h14, h15, h16, m2, mW, dW, p40I, q40I, hp40, hq40, dr_row, hRp, hRq]
    intro b8 hb8
    simp at hb8
    simp [hb8]
    have hb8h : h b8 = none := by have := hb8; simpa [Fresh] using this.2.2
    have hb8f : Fresh h b8 := by simpa [Fresh] using hb8h
    have ca8 := fun x (e : oa = some x) => show x ≠ b8 from fun q => by have := (ca x e).1; rw [q, hb8h] at this; cases this
    have cb8 := fun x (e : ob = some x) => show x ≠ b8 from fun q => by have := (cb x e).1; rw [q, hb8h] at this; cases this
    have m28 := ne_fresh (d2 0) hb8f
    have m8W := ne_fresh (dW 0) hb8f
    refine ⟨fun b hb => ?_, ?_⟩
    · rcases hb with hb | rfl
      · have hb := mem_blkS_ownV.1 hb
        obtain ⟨_, e1, e2⟩ := ca b hb
        have e5 := ca7 b hb
        simp [hb, e1, e2, e5]
      · have e1 : ¬ oa = some b := fun e => ca8 b e rfl
        have e2 : ¬ ob = some b := fun e => cb8 b e rfl
        simp [e1, e2, hb8, m8W]
    refine appendK_own (cs := intC (nbr w (l.take i) p)) (by omega) (by omega) ?_ (by simp [hna]) ?_ fun b9 hb9 => ?_
    · intro e
      have := (cn p).1 (hoa ▸ e)
      rw [hna, this]; exact ⟨rfl, rfl⟩
    · intro x e
      obtain ⟨e0, e1, e2⟩ := ca x e
      rw [AHeap.upd_ne (ca8 x e), AHeap.upd_ne (ca7 x e)]
      exact e0
    have f9 : b9 ≠ b2 ∧ b9 ≠ W ∧ b9 ≠ b7 ∧ b9 ≠ b8 ∧ (∀ p' x, rb p' = some x → x = b9 → p' = p) ∧ (oa = some b9 ∨ h b9 = none) := by
      rcases hb9 with e | e
      · obtain ⟨e0, e1, e2⟩ := ca b9 e
        exact ⟨e2, e1, ca7 b9 e, ca8 b9 e, fun p' x he hx => ci p' p b9 (hx ▸ he) (hoa ▸ e), .inl e⟩
      · simp at e
        have e6 : Fresh h b9 := by simp [e]
        have hn : h b9 = none := by simpa [Fresh] using e6
        refine ⟨(ne_fresh (d2 0) e6).2, (ne_fresh (dW 0) e6).2, by simp [e], by simp [e], fun p' x he hx => ?_, .inr hn⟩
        have := (cr p' x he).1
        rw [hx, hn] at this; cases this
    obtain ⟨f92, f9W, f97, f98, f9r, f9o⟩ := f9
    have f9q : ¬ ob = some b9 := fun e => hpq (f9r q b9 (hob ▸ e) rfl).symm
    simp [h1, h5, h14, h15, h16, m2, mW, m28, m8W, dW, p40I, q40I, hp40, hq40, dr_row, hRp, hRq, f92, f9W, f97, f98, f92.symm, f9W.symm, f97.symm, f98.symm, hb8]
    intro b10 hb10
    simp at hb10
    simp [hb10]
    have hb10f : Fresh h b10 := by simp [hb10]
    have hb10h : h b10 = none := by simpa [Fresh] using hb10f
    have ca10 := fun x (e : oa = some x) => show x ≠ b10 from fun q => by have := (ca x e).1; rw [q, hb10h] at this; cases this
    have cb10 := fun x (e : ob = some x) => show x ≠ b10 from fun q => by have := (cb x e).1; rw [q, hb10h] at this; cases this
    have m210 := ne_fresh (d2 0) hb10f
    have m10W := ne_fresh (dW 0) hb10f
    refine ⟨fun b hb => ?_, ?_⟩
    · rcases hb with hb | rfl
      · have hb := mem_blkS_ownV.1 hb
        obtain ⟨_, e1, e2⟩ := cb b hb
        have e5 := cb7 b hb
        have e6 : ¬ oa = some b := fun e => cab b e hb
        simp [hb, e1, e2, e5, e6]
      · have e1 : ¬ oa = some b := fun e => ca10 b e rfl
        have e2 : ¬ ob = some b := fun e => cb10 b e rfl
        simp [e1, e2, hb10, m10W]
    refine appendK_own (cs := intC (nbr w (l.take i) q)) (by omega) (by omega) ?_ (by simp [hnbl]) ?_ fun b11 hb11 => ?_
    · intro e
      have := (cn q).1 (hob ▸ e)
      rw [hnbl, this]; exact ⟨rfl, rfl⟩
    · intro x e
      obtain ⟨e0, e1, e2⟩ := cb x e
      have e9 : x ≠ b9 := fun q => f9q (q ▸ e)
      rw [AHeap.upd_ne (cb10 x e), AHeap.upd_ne e9, AHeap.upd_ne (cb8 x e), AHeap.upd_ne (cb7 x e)]
      exact e0
    have f11 : b11 ≠ b2 ∧ b11 ≠ W ∧ b11 ≠ b7 ∧ b11 ≠ b8 ∧ b11 ≠ b9 ∧ b11 ≠ b10 ∧ (∀ p' x, rb p' = some x → x = b11 → p' = q) := by
      rcases hb11 with e | e
      · obtain ⟨e0, e1, e2⟩ := cb b11 e
        exact ⟨e2, e1, cb7 b11 e, cb8 b11 e, fun q => f9q (q ▸ e), cb10 b11 e, fun p' x he hx => ci p' q b11 (hx ▸ he) (hob ▸ e)⟩
      · simp at e
        have e6 : Fresh h b11 := by simp [e]
        have hn : h b11 = none := by simpa [Fresh] using e6
        refine ⟨(ne_fresh (d2 0) e6).2, (ne_fresh (dW 0) e6).2, by simp [e], by simp [e], by simp [e], by simp [e], fun p' x he hx => ?_⟩
        have := (cr p' x he).1
        rw [hx, hn] at this; cases this
    obtain ⟨f112, f11W, f117, f118, f119, f1110, f11r⟩ := f11
    simp [h1, h5, h14, h15, h16, m2, mW, m28, m8W, m210, m10W, dW, p40I, q40I, hp40, hq40, sp_row, f112, f11W, f117, f118, f119, f1110, f112.symm, f11W.symm, f117.symm, f118.symm, f119.symm, f1110.symm, f92, f9W, f97, f98, f92.symm, f9W.symm, f97.symm, f98.symm, hb8, hb10, z5, z6]
    refine turnA_self ⟨i + 1, by omega, by omega, ⟨upf (upf rb p (some b9)) q (some b11), ?_⟩, by simp [h1, h5, h14, h15, h16, hwi, hVs]⟩
    rw [← hVs]
    have hgrow : growN (upf (upf rb p (some b9)) q (some b11)) w (l.take (i + 1)) = upf (upf Ro p (.osl b9 0 (na + 1) 1)) q (.osl b11 0 (nb + 1) 1) := by
      funext p'
      unfold growN upf
      by_cases e1 : p' = q
      · subst e1
        rw [hnq]
        simp [hnbl]
      · by_cases e2 : p' = p
        · subst e2
          rw [hnp]
          simp [hna, e1]
        · rw [hno p' e2 e1]
          simp only [e1, e2, if_false]
          rw [hRo]; rfl
    have e9W := f9W.symm
    have e11W := f11W.symm
    refine ⟨?_, ?_, ?_, ?_, ?_⟩
    · rw [AHeap.upd_ne nW2, AHeap.upd_ne f112.symm, AHeap.upd_ne m210.1, AHeap.upd_ne f92.symm, AHeap.upd_ne m28.1, AHeap.upd_ne m2.1]
      exact c2
    · rw [hgrow, AHeap.upd_same]
    · intro p'
      unfold upf
      by_cases e1 : p' = q
      · subst e1
        rw [hnq]; simp
      · rw [if_neg e1]
        by_cases e2 : p' = p
        · subst e2
          rw [hnp]; simp
        · rw [if_neg e2, hno p' e2 e1]
          exact cn p'
    · intro p' x' e
      unfold upf at e
      by_cases e1 : p' = q
      · rw [if_pos e1] at e; cases e
        subst e1
        rw [hnq]
        refine ⟨?_, f11W, f112⟩
        rw [AHeap.upd_ne f11W, AHeap.upd_same]; simp [intC]
      · rw [if_neg e1] at e
        by_cases e2 : p' = p
        · rw [if_pos e2] at e; cases e
          subst e2
          rw [hnp]
          refine ⟨?_, f9W, f92⟩
          rw [AHeap.upd_ne f9W, AHeap.upd_ne f119.symm, AHeap.upd_ne (by simp [hb10]), AHeap.upd_same]; simp [intC]
        · rw [if_neg e2] at e
          obtain ⟨e3, e4, e5⟩ := cr p' x' e
          rw [hno p' e2 e1]
          refine ⟨?_, e4, e5⟩
          have g11 : x' ≠ b11 := fun q => e1 (f11r p' x' e q)
          have g9 : x' ≠ b9 := fun q => e2 (f9r p' x' e q)
          have g10 : x' ≠ b10 := fun q => by rw [q, hb10h] at e3; cases e3
          have g8 : x' ≠ b8 := fun q => by rw [q, hb8h] at e3; cases e3
          rw [AHeap.upd_ne e4, AHeap.upd_ne g11, AHeap.upd_ne g10, AHeap.upd_ne g9, AHeap.upd_ne g8, AHeap.upd_ne (b7r p' x' e)]
          exact e3
    · intro p' p2 x' e e'
      unfold upf at e e'
      by_cases e1 : p' = q
      · rw [if_pos e1] at e; cases e
        by_cases d1 : p2 = q
        · rw [e1, d1]
        · rw [if_neg d1] at e'
          by_cases d2 : p2 = p
          · rw [if_pos d2] at e'; cases e'; exact absurd rfl f119
          · rw [if_neg d2] at e'; exact absurd (f11r p2 _ e' rfl) d1
      · rw [if_neg e1] at e
        by_cases e2 : p' = p
        · rw [if_pos e2] at e; cases e
          by_cases d1 : p2 = q
          · rw [if_pos d1] at e'; cases e'; exact absurd rfl f119
          · rw [if_neg d1] at e'
            by_cases d2 : p2 = p
            · rw [e2, d2]
            · rw [if_neg d2] at e'; exact absurd (f9r p2 _ e' rfl) d2
        · rw [if_neg e2] at e
          by_cases d1 : p2 = q
          · rw [if_pos d1] at e'; cases e'; exact absurd (f11r p' _ e rfl) e1
          · rw [if_neg d1] at e'
            by_cases d2 : p2 = p
            · rw [if_pos d2] at e'; cases e'; exact absurd (f9r p' _ e rfl) e2
            · rw [if_neg d2] at e'; exact ci p' p2 x' e e'
  · obtain rfl : i = l.length := by omega
    rw [List.take_length] at hJ
    obtain ⟨rb, J⟩ := hJ
    simp [h1, h5, h14, h15, h16]
    refine awp_loop_g (γ := Nat) (fun k t h => (k ≤ 40) ∧ (NJ n w V W b2 l (fun j => if j < k then -1 else 0) rb h) ∧ t 5 = .ptr W 0 ∧ t 65 = .int .i64 k) (fun k => 40 - k) (0) (turnA_self (by simp [h1, h5, h14, h15, h16]; exact J)) ?_
    rintro k t h ⟨hk, hJ2, h5, h65⟩
    obtain ⟨c2, cW, cn, cr, ci⟩ := hJ2
    have dW : ∀ off, cellsAt h W off = some ((fC n (growN rb w l) (fun j => if j < k then -1 else 0) (fun _ => 0) (fun _ => 0) (fun _ => false) .nilsl).drop off) := fun off => cellsAt_eq cW
    by_cases hkt : k < 40
    · have hktI : (k : Int) < 40 := by omega
      have hwk : IntKind.i64.wrap ((k : Int) + 1) = (k : Int) + 1 := wrap_i64 (by omega) (by omega)
      have zk : 41 + k ≤ 201 := by omega
      have hm : upf (fun j => if j < k then (-1 : Int) else 0) k (-1) = fun j => if j < k + 1 then -1 else 0 := by
        funext j
        unfold upf
        by_cases e : j = k
        · subst e; simp
        · by_cases e2 : j < k
          · simp [e, e2, show j < k + 1 by omega]
          · simp [e, e2, show ¬ j < k + 1 by omega]
      simp [h5, h65, hkt, hktI, dW, zk, sp_mate, hm]
      refine turnA_self ⟨k + 1, by omega, by omega, ⟨?_, AHeap.upd_same, cn, fun p' q' e => ?_, ci⟩, by simp [h5, h65, hwk]⟩
      · rw [AHeap.upd_ne nW2]; exact c2
      · obtain ⟨r1, r2, r3⟩ := cr p' q' e
        exact ⟨by rw [AHeap.upd_ne r2]; exact r1, r2, r3⟩
    · obtain rfl : k = 40 := by omega
      simp [h5, h65]
      refine ⟨2, AHeap.empty.upd W (.cells (fC n (fun p => intL (nbr w l p)) (fun _ => -1) (fun _ => 0) (fun _ => 0) (fun _ => false) .nilsl)), .ptr W 0, fun b => ?_, .inl rfl, W, rfl, rfl⟩
      by_cases hb : b = W
      · subst hb
        refine .inr (.inr ⟨_, cW, ?_⟩)
        rw [fC_map _ (fun n => rfl) (fun b => rfl)]
        rw [AHeap.upd_same]
        have hmc : fC n (fun p => intL (nbr w l p)) (fun _ => -1) (fun _ => 0) (fun _ => 0) (fun _ => false) .nilsl = fC n (fun p => intL (nbr w l p)) (fun j => if j < 40 then -1 else 0) (fun _ => 0) (fun _ => 0) (fun _ => false) .nilsl := by
          unfold fC
          rw [iarr_congr (f := fun _ => -1) (g := fun j => if j < 40 then -1 else 0) (fun i hi => by simp [hi])]
        rw [hmc]
        congr 3
        · funext p
          unfold growN
          cases e : rb p with
          | none =>
            rw [(cn p).1 e]; rfl
          | some x =>
            obtain ⟨e3, e4, e5⟩ := cr p x e
            have hne : nbr w l p ≠ [] := fun q => by rw [(cn p).2 q] at e; cases e
            have hx : Fresh (AHeap.empty.upd b (.cells (fC n (fun p => intL (nbr w l p)) (fun j => if j < 40 then -1 else 0) (fun _ => 0) (fun _ => 0) (fun _ => false) .nilsl))) x := by
              unfold Fresh
              rw [AHeap.upd_ne e4]; rfl
            rw [ownV_some, frz_osl hx, cellsAt_eq e3]
            simp only [List.drop_zero, intC_length, Nat.mul_one, Nat.zero_add, Nat.le_refl, if_true]
            rw [List.take_of_length_le (by simp), map_frozen intC_frozen]
            unfold intL
            rw [if_neg hne]
      · rw [AHeap.upd_ne hb]
        exact .inl rfl
theorem at_any {f : FuncId} {args : List AV} {R : AV → AHeap → Prop} (c : ACalls Try.prog f args AHeap.empty R) (H : AHeap) : ACalls Try.prog f args H fun r h' => ∃ h1, h' = h1.un H ∧ Disj h1 H ∧ R r h1 := by
  have := ACalls.frame c (h2 := H) Disj.empty
  rw [AHeap.empty_un] at this
  exact this
theorem w_newFinderH (n : Int) (l : List Ed) (w : Int) (hc : chkG n l = 0) (H : AHeap) :
    ACalls Try.prog 66 [gV n l, .int .i64 w] H fun r h' => ∃ W, H W = none ∧ r = .ptr W 0 ∧ h' = H.upd W (.cells (fC n (fun p => intL (nbr w l p)) (fun _ => -1) (fun _ => 0) (fun _ => 0) (fun _ => false) .nilsl)) := by
  refine ACalls.mono (at_any (w_newFinder n l w hc) H) ?_
  rintro r h' ⟨h1, rfl, D, W, rfl, rfl⟩
  have hW : H W = none := (D W).resolve_left (by rw [AHeap.upd_same]; simp)
  refine ⟨W, hW, rfl, ?_⟩
  funext b
  unfold AHeap.un
  by_cases e : b = W
  · subst e; rw [AHeap.upd_same, AHeap.upd_same]
  · rw [AHeap.upd_ne e, AHeap.upd_ne e]; rfl
end Go.Proofs

end
