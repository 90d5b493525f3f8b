/-
  Pair: whether numbers are a pairing, by the program; both answer alike.
-/
import Derived.Test.YtkdhgablioljnaaPaF
set_option linter.unusedSimpArgs false
set_option linter.unusedVariables false
set_option linter.unusedSectionVars false
namespace Go.Proofs
open Go Go.AH
set_option maxRecDepth 10000
set_option maxHeartbeats 4000000

theorem w_IsPairing (n : Int) (l : List Ed) (hl : l.length ≤ 1000000) (m : List Int) (hm : m.length ≤ 1000000) : Pure Try.prog 25 [gV n l, intL m] (isPP n l m) := by
  refine pure_of (acalls_of Try.func25 rfl Try.call25 (by kernel_rfl) (by show _ ≤ (84 : Nat); simp) ?_)
  have ck := w_Check n l hl
  obtain ⟨r, hr⟩ : ∃ r, r = isPP n l m := ⟨_, rfl⟩
  rw [← hr]
  obtain ⟨V, hV⟩ : ∃ V, V = edL l := ⟨_, rfl⟩
  have hV1 : V.one = true := by rw [hV]; simp
  have hV2 : V.fit = true := by rw [hV]; simp
  have hV3 : V.cells = [V] := by rw [hV]; simp
  have hlen : ∀ h : AHeap, lenA Try.prog h 42 V = some (.int .i64 (l.length : Int)) := fun h => by rw [hV]; exact lenA_edL l
  have hg : gV n l = .agg [.int .i64 n, V] := by rw [hV]; rfl
  rw [hg] at ck ⊢
  have hbad : ¬ (chkG n l = 0 ∧ (m.length : Int) = n ∧ ∀ i, i < m.length → pOk n l m i) → r = .tup [.int .i64 0, .bool false] := fun q => by rw [hr, isPP, if_neg q]
  simp [hV1, hV2, hV3]
  intro b2 hb2
  simp
  refine ck.use ?_
  rcases chk_cases n l with c0 | c0
  rotate_left
  · have := hbad (fun q => by rw [c0] at q; exact absurd q.1 (by decide))
    simp [c0]
    exact finA_drop (by rw [this])
  obtain ⟨k1, k2, k3, k4⟩ := chk_zero c0
  by_cases c1 : (m.length : Int) = n
  rotate_left
  · have := hbad (fun q => c1 q.2.1)
    simp [c0, c1, -lenA, lenA_intL]
    exact finA_drop (by rw [this])
  simp [c0, c1, -lenA, lenA_intL]
  intro bm hbm
  simp at hbm
  simp [hbm, -lenA, hlen]
  refine awp_loop_g (γ := Nat) (fun i t h => (i ≤ l.length) ∧ t 1 = intL m ∧ t 2 = .ptr b2 0 ∧ t 4 = .int .i64 0 ∧ t 6 = .map bm ∧ t 23 = V ∧ t 24 = .int .i64 l.length ∧ t 25 = .int .i64 i ∧ h = (AHeap.empty.upd b2 (.cells [.int .i64 n, V])).upd bm (.map edSh (edM (l.take i)))) (fun i => l.length - i) (0) (turnA_self (by simp [edM, hbm])) ?_
  rintro i t h ⟨hi, h1, h2, h4, h6, h23, h24, h25, rfl⟩
  by_cases hlt : i < l.length
  · have hltI : (i : Int) < (l.length : Int) := by omega
    have hwi : IntKind.i64.wrap ((i : Int) + 1) = (i : Int) + 1 := wrap_i64 (by omega) (by omega)
    have hVs : V = .sl l.length (edC l) := by rw [hV]; exact edL_ne hlt
    obtain ⟨x, hx⟩ : ∃ x, l[i]? = some x := ⟨_, List.getElem?_eq_getElem hlt⟩
    have hat := edC_at hx
    have hi3 : 2 ≤ l.length * 2 - i * 2 := by omega
    have hi4 : min 2 (l.length * 2 - i * 2) = 2 := by omega
    rw [hVs] at hV1 hV2 hV3 hlen ⊢
    have hmn : (if x.2 < x.1 then x.2 else x.1) = mnE x := rfl
    have hmx : (if x.1 < x.2 then x.2 else x.1) = mxE x := rfl
    have hn : ∀ y ∈ l.take i, ¬ sameE y x := by
      have := GOk.snoc.1 (take_snoc hx ▸ k4.take (i + 1))
      exact this.2.2
    have hset := edM_set hn
    rw [← take_snoc hx] at hset
    unfold keyE at hset
    simp [h1, h2, h4, h6, h23, h24, h25, hVs, hlt, hltI, hat, hi3, hi4]
    intro b5 hb5
    simp [hbm] at hb5
    simp [h1, h2, h4, h6, h23, h24, h25, hb5, hbm, hmn, hmx, splice, hset]
    refine turnA_to ((AHeap.empty.upd b2 (.cells [.int .i64 n, .sl l.length (edC l)])).upd bm (.map edSh (edM (l.take (i + 1))))) ?_ ⟨i + 1, by omega, by omega, by simp [h1, h2, h4, h6, h23, h24, h25, hwi, hVs]⟩
    exact Drop.new (Drop.refl _) (by simp [hb5])
  obtain rfl : i = l.length := by omega
  rw [List.take_length]
  simp [h1, h2, h4, h6, h23, h24, h25, -lenA, lenA_intL]
  refine awp_loop_g (γ := Nat) (fun i t h => (i ≤ m.length) ∧ (∀ j, j < i → pOk n l m j) ∧ t 1 = intL m ∧ t 2 = .ptr b2 0 ∧ t 4 = .int .i64 (cntP m i) ∧ t 6 = .map bm ∧ t 42 = intL m ∧ t 43 = .int .i64 m.length ∧ t 44 = .int .i64 i ∧ h = (AHeap.empty.upd b2 (.cells [.int .i64 n, V])).upd bm (.map edSh (edM l))) (fun i => m.length - i) (0) (turnA_self (by simp [h1, h2, h4, h6, h23, h24, h25, cntP])) ?_
  rintro i t h ⟨hi2, hp, h1, h2, h4, h6, h42, h43, h44, rfl⟩
  by_cases hlt2 : i < m.length
  · have hltI : (i : Int) < (m.length : Int) := by omega
    have hwi : IntKind.i64.wrap ((i : Int) + 1) = (i : Int) + 1 := wrap_i64 (by omega) (by omega)
    have hVm := intL_ne hlt2
    obtain ⟨k, hk⟩ : ∃ k, m[i]? = some k := ⟨_, List.getElem?_eq_getElem hlt2⟩
    have hat := intC_at hk
    have hkd : m.getD i (-1) = k := by rw [List.getD_eq_getElem?_getD, hk]; rfl
    have hcs := cntP_succ m i
    rw [hkd] at hcs
    have hpS : pOk n l m i → ∀ j, j < i + 1 → pOk n l m j := fun q j hj => by
      by_cases e : j = i
      · rw [e]; exact q
      · exact hp j (by omega)
    have hbadi : ¬ pOk n l m i → r = .tup [.int .i64 0, .bool false] := fun q => hbad (fun z => q (z.2.2 i hlt2))
    simp [h1, h2, h4, h6, h42, h43, h44, hlt2, hltI, hVm, hat]
    by_cases d1 : k = -1
    · subst d1
      simp [h1, h2, h4, h6, h42, h43, h44]
      exact turnA_self ⟨i + 1, by omega, by omega, hpS (.inl hk), by simp [h1, h2, h4, h6, h42, h43, h44, hwi, hVm, hcs]⟩
    by_cases d2 : k < 0
    · have := hbadi (by
        rintro (q | ⟨k', q, q2, _⟩)
        · rw [hk] at q; exact d1 (Option.some.inj q)
        · rw [hk] at q; cases q; omega)
      simp [h1, h2, h4, h6, h42, h43, h44, d1, d2]
      exact finA_drop (by rw [this])
    by_cases d3 : n ≤ k
    · have := hbadi (by
        rintro (q | ⟨k', q, q2, q3, _⟩)
        · rw [hk] at q; exact d1 (Option.some.inj q)
        · rw [hk] at q; cases q; omega)
      simp [h1, h2, h4, h6, h42, h43, h44, d1, d2, d3, hbm]
      exact finA_drop (by rw [this])
    have hkl : k.toNat < m.length := by omega
    have hkl2 : k < (m.length : Int) := by omega
    have hk0 : 0 ≤ k := by omega
    obtain ⟨z, hz⟩ : ∃ z, m[k.toNat]? = some z := ⟨_, List.getElem?_eq_getElem hkl⟩
    have haz := intC_at hz
    by_cases d4 : z = (i : Int)
    rotate_left
    · have := hbadi (by
        rintro (q | ⟨k', q, q2, q3, q4, _⟩)
        · rw [hk] at q; exact d1 (Option.some.inj q)
        · rw [hk] at q; cases q; rw [hz] at q4; exact d4 (Option.some.inj q4))
      simp [h1, h2, h4, h6, h42, h43, h44, d1, d2, d3, d4, hVm, hkl, hkl2, hk0, haz, hbm]
      exact finA_drop (by rw [this])
    subst d4
    have hmn : (if k < (i : Int) then k else (i : Int)) = mnE ((i : Int), k) := rfl
    have hmx : (if (i : Int) < k then k else (i : Int)) = mxE ((i : Int), k) := rfl
    obtain ⟨J, hJ⟩ : ∃ J, joinB l i k = J := ⟨_, rfl⟩
    have hget := edM_get (a := mnE ((i : Int), k)) (b := mxE ((i : Int), k)) l
    rw [joinB_key, hJ] at hget
    simp [h1, h2, h4, h6, h42, h43, h44, d1, d2, d3, hVm, hkl, hkl2, hk0, haz, hmn, hmx, hget, hbm]
    cases J with
    | false =>
      have := hbadi (by
        rintro (q | ⟨k', q, q2, q3, q4, q5⟩)
        · rw [hk] at q; exact d1 (Option.some.inj q)
        · rw [hk] at q; cases q; rw [hJ] at q5; cases q5)
      simp [h1, h2, h4, h6, h42, h43, h44]
      exact finA_drop (by rw [this])
    | true =>
      have hok := hpS (.inr ⟨k, hk, hk0, by omega, hz, hJ⟩)
      rw [if_pos d1] at hcs
      have hcl := cntP_le m i
      have hw6 : IntKind.i64.wrap ((cntP m i : Int) + 1) = (cntP m (i + 1) : Int) := by rw [wrap_i64 (by omega) (by omega)]; omega
      simp [h1, h2, h4, h6, h42, h43, h44]
      exact turnA_self ⟨i + 1, by omega, by omega, hok, by simp [h1, h2, h4, h6, h42, h43, h44, hwi, hVm, hw6]⟩
  · obtain rfl : i = m.length := by omega
    have : r = .tup [.int .i64 ((cntP m m.length / 2 : Nat) : Int), .bool true] := by rw [hr, isPP, if_pos ⟨c0, c1, hp⟩]
    have hcl := cntP_le m m.length
    have hq : IntKind.i64.wrap ((cntP m m.length : Int) / 2) = (cntP m m.length : Int) / 2 := wrap_i64 (by omega) (by omega)
    simp [h1, h2, h4, h6, h42, h43, h44, hq]
    exact finA_drop (by rw [this]; simp)

/-! ### Both alike -/
theorem nodup_sub_len {α : Type} [DecidableEq α] : ∀ (l m : List α), l.Nodup → (∀ x ∈ l, x ∈ m) → l.length ≤ m.length
  | [], _, _, _ => Nat.zero_le _
  | x :: l, m, hn, hs => by
    have hx := hs x (by simp)
    have hn' := List.nodup_cons.1 hn
    have := nodup_sub_len l (m.erase x) hn'.2 (fun y hy => by
      have hne : y ≠ x := fun e => hn'.1 (e ▸ hy)
      exact (List.mem_erase_of_ne hne).2 (hs y (by simp [hy])))
    rw [List.length_erase_of_mem hx] at this
    have hpos : 0 < m.length := List.length_pos_of_mem hx
    simp only [List.length_cons]
    omega
theorem filter_map_le {n : Nat} (p q : Nat → Bool) (f : Nat → Nat) (hf : ∀ a, a < n → p a = true → f a < n ∧ q (f a) = true) (hi : ∀ a b, a < n → b < n → p a = true → p b = true → f a = f b → a = b) :
    ((List.range n).filter p).length ≤ ((List.range n).filter q).length := by
  have h1 : (((List.range n).filter p).map f).Nodup := by
    unfold List.Nodup
    rw [List.pairwise_map]
    refine List.Pairwise.imp_of_mem (fun {a b} ha hb hne e => hne ?_) ((List.nodup_range (n := n)).filter _)
    have ha := List.mem_filter.1 ha
    have hb := List.mem_filter.1 hb
    exact hi a b (List.mem_range.1 ha.1) (List.mem_range.1 hb.1) ha.2 hb.2 e
  have := nodup_sub_len (((List.range n).filter p).map f) ((List.range n).filter q) h1 (fun x hx => by
    obtain ⟨a, ha, rfl⟩ := List.mem_map.1 hx
    have ha := List.mem_filter.1 ha
    obtain ⟨h2, h3⟩ := hf a (List.mem_range.1 ha.1) ha.2
    exact List.mem_filter.2 ⟨List.mem_range.2 h2, h3⟩)
  simpa using this
theorem pairs_half {n : Int} {l : List Ed} {m : List Int} (g : GOk n l) (hlen : (m.length : Int) = n) (hp : ∀ i, i < m.length → pOk n l m i) : cntP m m.length = 2 * cntR m m.length := by
  -- the partner
  have part : ∀ a, a < m.length → m.getD a (-1) ≠ -1 → ∃ b : Nat, m.getD a (-1) = (b : Int) ∧ b < m.length ∧ m.getD b (-1) = (a : Int) ∧ b ≠ a := by
    intro a ha hne
    rcases hp a ha with q | ⟨k, q1, q2, q3, q4, q5⟩
    · exfalso; apply hne; rw [List.getD_eq_getElem?_getD, q]; rfl
    · refine ⟨k.toNat, ?_, by omega, ?_, fun e => ?_⟩
      · rw [List.getD_eq_getElem?_getD, q1]; simp; omega
      · rw [List.getD_eq_getElem?_getD, q4]; rfl
      · obtain ⟨y, hy, hs⟩ := joinB_iff.1 q5
        have := (g.ed y hy).2.2.2.2
        unfold sameE at hs
        simp only at hs
        omega
  obtain ⟨M, hM⟩ : ∃ M, M = m.length := ⟨_, rfl⟩
  have e1 : ((List.range M).filter fun a => decide (m.getD a (-1) ≠ -1) && decide ((a : Int) < m.getD a (-1))).length = ((List.range M).filter fun a => decide (m.getD a (-1) ≠ -1) && decide (m.getD a (-1) < (a : Int))).length := by
    refine Nat.le_antisymm (filter_map_le _ _ (fun a => (m.getD a (-1)).toNat) ?_ ?_) (filter_map_le _ _ (fun a => (m.getD a (-1)).toNat) ?_ ?_)
    · intro a ha h
      simp at h
      obtain ⟨b, h1, h2, h3, h4⟩ := part a (by omega) (by simpa [List.getD_eq_getElem?_getD] using h.1)
      simp only [h1, Int.toNat_natCast, h3]
      have : (m[a]?).getD (-1) = (b : Int) := by rw [← List.getD_eq_getElem?_getD]; exact h1
      rw [this] at h
      refine ⟨by omega, by simp; omega⟩
    · intro a b ha hb h1 h2 e
      simp at h1 h2
      obtain ⟨x, x1, x2, x3, x4⟩ := part a (by omega) (by simpa [List.getD_eq_getElem?_getD] using h1.1)
      obtain ⟨y, y1, y2, y3, y4⟩ := part b (by omega) (by simpa [List.getD_eq_getElem?_getD] using h2.1)
      simp only [x1, y1, Int.toNat_natCast] at e
      subst e
      rw [x3] at y3; omega
    · intro a ha h
      simp at h
      obtain ⟨b, h1, h2, h3, h4⟩ := part a (by omega) (by simpa [List.getD_eq_getElem?_getD] using h.1)
      simp only [h1, Int.toNat_natCast, h3]
      have : (m[a]?).getD (-1) = (b : Int) := by rw [← List.getD_eq_getElem?_getD]; exact h1
      rw [this] at h
      refine ⟨by omega, by simp; omega⟩
    · intro a b ha hb h1 h2 e
      simp at h1 h2
      obtain ⟨x, x1, x2, x3, x4⟩ := part a (by omega) (by simpa [List.getD_eq_getElem?_getD] using h1.1)
      obtain ⟨y, y1, y2, y3, y4⟩ := part b (by omega) (by simpa [List.getD_eq_getElem?_getD] using h2.1)
      simp only [x1, y1, Int.toNat_natCast] at e
      subst e
      rw [x3] at y3; omega
  have e2 : ∀ L : List Nat, (∀ a ∈ L, a < m.length) → (L.filter fun a => decide (m.getD a (-1) ≠ -1)).length = (L.filter fun a => decide (m.getD a (-1) ≠ -1) && decide ((a : Int) < m.getD a (-1))).length + (L.filter fun a => decide (m.getD a (-1) ≠ -1) && decide (m.getD a (-1) < (a : Int))).length := by
    intro L
    induction L with
    | nil => intro _; rfl
    | cons a L ih =>
      intro hL
      have ih := ih (fun x hx => hL x (by simp [hx]))
      simp only [List.filter_cons]
      simp only [ne_eq] at ih ⊢
      by_cases h : m.getD a (-1) = -1
      · simp only [h, ne_eq, not_true, decide_false, Bool.false_and, Bool.false_eq_true, if_false]; exact ih
      · obtain ⟨b, h1, h2, h3, h4⟩ := part a (hL a (by simp)) h
        rw [h1] at h ⊢
        by_cases hlt : (a : Int) < b
        · have hlt' : ¬ (b : Int) < a := by omega
          simp only [ne_eq, h, not_false_eq_true, decide_true, hlt, hlt', decide_false, Bool.and_true, Bool.and_false, Bool.false_eq_true, if_true, if_false, List.length_cons]
          omega
        · have hlt' : (b : Int) < a := by omega
          simp only [ne_eq, h, not_false_eq_true, decide_true, hlt, hlt', decide_false, Bool.and_true, Bool.and_false, Bool.false_eq_true, if_true, if_false, List.length_cons]
          omega
  unfold cntP cntR
  rw [e2 (List.range m.length) (fun a ha => List.mem_range.1 ha)]
  rw [← hM, ← e1]
  omega
theorem isP_same (n : Int) (l : List Ed) (m : List Int) : isPP n l m = isPR n l m := by
  unfold isPP isPR
  split
  · next h =>
    obtain ⟨_, _, _, g⟩ := chk_zero h.1
    rw [pairs_half g h.2.1 h.2.2]
    congr 3
    rw [Nat.mul_div_cancel_left _ (by omega)]
  · rfl
end Go.Proofs
