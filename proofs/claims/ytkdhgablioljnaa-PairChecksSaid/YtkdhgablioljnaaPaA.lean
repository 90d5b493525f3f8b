/-
  Pair: lists of numbers and graphs as values; searches.
-/
import Derived.Test.YtkdhgablioljnaaTy
import Derived.Test.YtkdhgablioljnaaAhOwn
set_option linter.unusedSimpArgs false
set_option linter.unusedVariables false
set_option linter.unusedSectionVars false
namespace Go.Proofs
open Go Go.AH
set_option maxRecDepth 10000
set_option maxHeartbeats 4000000

def intC (l : List Int) : List AV := l.map (.int .i64)
/-- A list of whole numbers, nil where it is empty. -/
def intL (l : List Int) : AV := if l = [] then .nilsl else .sl l.length (intC l)
def intS (l : List Int) : AV := .sl l.length (intC l)
theorem intC_frozen {l : List Int} : ∀ x ∈ intC l, x.frozen = true := by
  intro x hx; obtain ⟨a, _, rfl⟩ := List.mem_map.1 hx; rfl
@[simp] theorem intC_length {l : List Int} : (intC l).length = l.length := by simp [intC]
@[simp] theorem intL_frozen {l : List Int} : (intL l).frozen = true := by
  unfold intL
  split
  · rfl
  · simp only [AV.frozen]; exact frozens_iff.2 intC_frozen
@[simp] theorem intL_one {l : List Int} : (intL l).one = true := by unfold intL; split <;> rfl
@[simp] theorem intL_fit {l : List Int} : (intL l).fit = true := by unfold intL; split <;> rfl
@[simp] theorem intL_cells {l : List Int} : (intL l).cells = [intL l] := by unfold intL; split <;> rfl
theorem lenA_intL {h : AHeap} (l : List Int) : lenA Try.prog h 24 (intL l) = some (.int .i64 (l.length : Int)) := by
  unfold intL
  split
  · next e => subst e; simp
  · simp
theorem intC_at {l : List Int} {i : Nat} {x : Int} (e : l[i]? = some x) : (intC l).drop i = .int .i64 x :: (intC l).drop (i + 1) := by
  obtain ⟨h, rfl⟩ := List.getElem?_eq_some_iff.1 e
  rw [List.drop_eq_getElem_cons (by simpa using h)]; simp [intC]
theorem intL_ne {l : List Int} {i : Nat} (h : i < l.length) : intL l = .sl l.length (intC l) := by
  unfold intL; rw [if_neg (fun e => by rw [e] at h; simp at h)]

/-! ### Edges and graphs -/
abbrev Ed := Int × Int
def edC (l : List Ed) : List AV := l.flatMap fun e => [.int .i64 e.1, .int .i64 e.2]
def edL (l : List Ed) : AV := if l = [] then .nilsl else .sl l.length (edC l)
def edS (l : List Ed) : AV := .sl l.length (edC l)
/-- A graph: points and edges. -/
def gV (n : Int) (l : List Ed) : AV := .agg [.int .i64 n, edL l]
@[simp] theorem edC_nil : edC [] = [] := rfl
@[simp] theorem edC_cons {x : Ed} {l : List Ed} : edC (x :: l) = .int .i64 x.1 :: .int .i64 x.2 :: edC l := rfl
@[simp] theorem edC_append {l m : List Ed} : edC (l ++ m) = edC l ++ edC m := by simp [edC]
@[simp] theorem edC_length {l : List Ed} : (edC l).length = l.length * 2 := by
  induction l with
  | nil => rfl
  | cons x l ih => simp [ih]; omega
theorem edC_drop : ∀ (i : Nat) (l : List Ed), (edC l).drop (i * 2) = edC (l.drop i)
  | 0, l => by simp
  | i + 1, [] => by simp
  | i + 1, x :: l => by
    have := edC_drop i l
    rw [show (i + 1) * 2 = i * 2 + 2 from by omega]
    simpa using this
theorem edC_at {l : List Ed} {i : Nat} {x : Ed} (e : l[i]? = some x) : (edC l).drop (i * 2) = .int .i64 x.1 :: .int .i64 x.2 :: edC (l.drop (i + 1)) := by
  obtain ⟨h, rfl⟩ := List.getElem?_eq_some_iff.1 e
  rw [edC_drop, List.drop_eq_getElem_cons h]; rfl
theorem edC_frozen {l : List Ed} : ∀ x ∈ edC l, x.frozen = true := by
  intro x hx
  obtain ⟨a, _, h⟩ := List.mem_flatMap.1 hx
  simp at h
  rcases h with rfl | rfl <;> rfl
@[simp] theorem edL_frozen {l : List Ed} : (edL l).frozen = true := by
  unfold edL
  split
  · rfl
  · simp only [AV.frozen]; exact frozens_iff.2 edC_frozen
@[simp] theorem edL_one {l : List Ed} : (edL l).one = true := by unfold edL; split <;> rfl
@[simp] theorem edL_fit {l : List Ed} : (edL l).fit = true := by unfold edL; split <;> rfl
@[simp] theorem edL_cells {l : List Ed} : (edL l).cells = [edL l] := by unfold edL; split <;> rfl
theorem lenA_edL {h : AHeap} (l : List Ed) : lenA Try.prog h 42 (edL l) = some (.int .i64 (l.length : Int)) := by
  unfold edL
  split
  · next e => subst e; simp
  · simp
theorem edL_ne {l : List Ed} {i : Nat} (h : i < l.length) : edL l = .sl l.length (edC l) := by
  unfold edL; rw [if_neg (fun e => by rw [e] at h; simp at h)]

theorem w_Has (l : List Int) (hl : l.length ≤ 1000000) (y : Int) : Pure Try.prog 29 [intL l, .int .i64 y] (.bool (l.contains y)) := by
  refine pure_of (acalls_of Try.func29 rfl Try.call29 (by kernel_rfl) (by show _ ≤ (18 : Nat); simp) ?_)
  obtain ⟨cb, hcb⟩ : ∃ cb, cb = l.contains y := ⟨_, rfl⟩
  rw [← hcb]
  simp [-lenA]
  refine awp_loop_g (γ := Nat) (fun k t h => (k ≤ l.length) ∧ (y ∉ l.take k) ∧ t 0 = intL l ∧ t 1 = .int .i64 y ∧ t 5 = .int .i64 k ∧ h = AHeap.empty) (fun k => l.length - k) (0) (turnA_self (by simp)) ?_
  rintro k t h ⟨hk, hno, h0, h1, h5, rfl⟩
  by_cases hlt : k < l.length
  · have hw : IntKind.i64.wrap ((k : Int) + 1) = (k : Int) + 1 := wrap_i64 (by omega) (by omega)
    have hV := intL_ne hlt
    obtain ⟨x, hx⟩ : ∃ x, l[k]? = some x := ⟨_, List.getElem?_eq_getElem hlt⟩
    have hat := intC_at hx
    simp [h0, h1, h5, hlt, hV, hat]
    by_cases c : x = y
    · simp [h0, h1, h5, c]
      refine finA_drop ?_
      rw [hcb]
      have : y ∈ l := c ▸ List.mem_of_getElem? hx
      simp [this]
    · simp [h0, h1, h5, c]
      refine turnA_self ⟨k + 1, by omega, by omega, ?_, by simp [h0, h1, h5, hw, hV]⟩
      have hx2 : l[k] = x := by have := List.getElem?_eq_getElem hlt; rw [hx] at this; exact (Option.some.inj this).symm
      rw [List.take_succ_eq_append_getElem hlt, hx2]
      intro h
      rcases List.mem_append.1 h with h | h
      · exact hno h
      · simp at h; exact c h.symm
  · obtain rfl : k = l.length := by omega
    rw [List.take_length] at hno
    simp [h0, h1, h5, -lenA, lenA_intL]
    refine finA_drop ?_
    rw [hcb]; simp [hno]

/-- Are two points joined? -/
def joinB (l : List Ed) (a b : Int) : Bool := l.any fun e => (decide (e.1 = a) && decide (e.2 = b)) || (decide (e.1 = b) && decide (e.2 = a))
theorem w_Joined (n : Int) (l : List Ed) (hl : l.length ≤ 1000000) (a b : Int) : Pure Try.prog 62 [gV n l, .int .i64 a, .int .i64 b] (.bool (joinB l a b)) := by
  refine pure_of (acalls_of Try.func62 rfl Try.call62 (by kernel_rfl) (by show _ ≤ (35 : Nat); simp) ?_)
  obtain ⟨cb, hcb⟩ : ∃ cb, cb = joinB l a b := ⟨_, rfl⟩
  rw [← hcb]
  obtain ⟨V, hV⟩ : ∃ V, V = edL l := ⟨_, rfl⟩
  have hV1 : V.one = true := by rw [hV]; simp
  have hV2 : V.fit = true := by rw [hV]; simp
  have hV3 : V.cells = [V] := by rw [hV]; simp
  have hlen : ∀ h : AHeap, lenA Try.prog h 42 V = some (.int .i64 (l.length : Int)) := fun h => by rw [hV]; exact lenA_edL l
  rw [show gV n l = .agg [.int .i64 n, V] from by rw [hV]; rfl]
  simp [hV1, hV2, hV3]
  intro b3 hb3
  simp
  refine awp_loop_g (γ := Nat) (fun k t h => (k ≤ l.length) ∧ (joinB (l.take k) a b = false) ∧ t 1 = .int .i64 a ∧ t 2 = .int .i64 b ∧ t 3 = .ptr b3 0 ∧ t 7 = .int .i64 k ∧ h = AHeap.empty.upd b3 (.cells [.int .i64 n, V])) (fun k => l.length - k) (0) (turnA_self (by simp [joinB])) ?_
  rintro k t h ⟨hk, hno, h1, h2, h3, h7, rfl⟩
  by_cases hlt : k < l.length
  · have hw : IntKind.i64.wrap ((k : Int) + 1) = (k : Int) + 1 := wrap_i64 (by omega) (by omega)
    have hVs : V = .sl l.length (edC l) := by rw [hV]; exact edL_ne hlt
    obtain ⟨x, hx⟩ : ∃ x, l[k]? = some x := ⟨_, List.getElem?_eq_getElem hlt⟩
    have hat := edC_at hx
    have hx2 : l[k] = x := by have := List.getElem?_eq_getElem hlt; rw [hx] at this; exact (Option.some.inj this).symm
    have hts : joinB (l.take (k + 1)) a b = ((decide (x.1 = a) && decide (x.2 = b)) || (decide (x.1 = b) && decide (x.2 = a))) := by
      rw [List.take_succ_eq_append_getElem hlt, hx2]
      unfold joinB at hno ⊢
      rw [List.any_append, hno]; simp
    have hi3 : 2 ≤ l.length * 2 - k * 2 := by omega
    have hi4 : min 2 (l.length * 2 - k * 2) = 2 := by omega
    have hall : joinB (l.take (k + 1)) a b = true → cb = true := fun q => by
      rw [hcb]
      unfold joinB at q ⊢
      rw [List.any_eq_true] at q ⊢
      obtain ⟨e, he, q⟩ := q
      exact ⟨e, List.mem_of_mem_take he, q⟩
    rw [hVs] at hV1 hV2 hV3 hlen ⊢
    obtain ⟨B1, d1⟩ : ∃ B1, (decide (x.1 = a) && decide (x.2 = b)) = B1 := ⟨_, rfl⟩
    obtain ⟨B2, d2⟩ : ∃ B2, (decide (x.1 = b) && decide (x.2 = a)) = B2 := ⟨_, rfl⟩
    have hts' : joinB (l.take (k + 1)) a b = (B1 || B2) := by
      rw [hts, ← d1, ← d2]
    simp [h1, h2, h3, h7, -lenA, hlen, hlt, hat, hi3, hi4, d1]
    cases B1 with
    | true =>
      have hcb1 : cb = true := hall (by rw [hts']; rfl)
      simp [h1, h2, h3, h7]
      exact finA_drop (by rw [hcb1])
    | false =>
      simp [h1, h2, h3, h7, hlt, hat, hi3, hi4, d2]
      cases B2 with
      | true =>
        have hcb1 : cb = true := hall (by rw [hts']; rfl)
        simp [h1, h2, h3, h7]
        exact finA_drop (by rw [hcb1])
      | false =>
        simp [h1, h2, h3, h7]
        exact turnA_self ⟨k + 1, by omega, by omega, by rw [hts']; rfl, by simp [h1, h2, h3, h7, hw, hlen]⟩
  · obtain rfl : k = l.length := by omega
    rw [List.take_length] at hno
    simp [h1, h2, h3, h7, -lenA, hlen]
    refine finA_drop ?_
    rw [hcb, hno]
end Go.Proofs
