/-
  Pair: offers with rows that may be nil.
-/
import Derived.Test.YtkdhgablioljnaaPbV
set_option linter.unusedSimpArgs false
set_option linter.unusedVariables false
set_option linter.unusedSectionVars false
namespace Go.Proofs
open Go Go.AH
set_option maxRecDepth 10000
set_option maxHeartbeats 8000000

theorem rowsL_row {ps : List (List Int)} {i : Nat} {p : List Int} (e : ps[i]? = some p) : (ps.map intL).drop i = intL p :: (ps.map intL).drop (i + 1) := drop_of_get (by simp [e])
section
variable (f : List Int → Bool) (fv : AV) (H : AHeap) (l : List (List Int)) (hl : l.length ≤ 4611686018427387904)
  (hf : ∀ x ∈ l, ACallV Try.prog fv [intL x] H fun r h' => r = .bool (f x) ∧ h' = H)
include hl hf
theorem w_IndexFuncRowsL : ACalls Try.prog 90 [.sl l.length (l.map intL), fv] H fun r h' => (∃ k : Int, r = .int .i64 k ∧ (0 ≤ k ↔ l.any f = true)) ∧ h' = H := by
  refine acalls_of Try.func90 rfl Try.call90 (by kernel_rfl) (by show _ ≤ (19 : Nat); simp) ?_
  obtain ⟨lb, hlb⟩ : ∃ lb, lb = l.any f := ⟨_, rfl⟩
  rw [← hlb]
  obtain ⟨an, han⟩ : ∃ an : Nat → Bool, an = fun i => (l.take i).any f := ⟨_, rfl⟩
  have hpl : (l.map intL).length = l.length := by simp
  have an0 : an 0 = false := by rw [han]; simp
  simp [hpl]
  refine awp_loop_g (γ := Nat) (fun i t h => (i ≤ l.length) ∧ (an i = false) ∧ t 0 = .sl l.length (l.map intL) ∧ t 1 = fv ∧ t 7 = .int .i64 l.length ∧ t 8 = .int .i64 i ∧ h = H) (fun i => l.length - i) (0) (turnA_self ⟨Nat.zero_le _, an0, by simp⟩) ?_
  rintro i t hx ⟨hi, hno, h0, h1, h7, h8, ex⟩
  rw [ex]
  clear ex
  by_cases hlt : i < l.length
  · have hltI : (i : Int) < (l.length : Int) := by omega
    have hwi : IntKind.i64.wrap ((i : Int) + 1) = (i : Int) + 1 := wrap_i64 (by omega) (by omega)
    obtain ⟨x, hx⟩ : ∃ x, l[i]? = some x := ⟨_, List.getElem?_eq_getElem hlt⟩
    have hat := rowsL_row hx
    have hts : an (i + 1) = f x := by
      obtain ⟨hi', e'⟩ := List.getElem?_eq_some_iff.1 hx
      rw [han] at hno ⊢
      simp only at hno ⊢
      rw [List.take_succ_eq_append_getElem hi', e', List.any_append, hno]; simp
    simp [h0, h1, h7, h8, hlt, hltI, hat, hpl]
    refine (hf x (List.mem_of_getElem? hx)).use ?_
    obtain ⟨B, hB⟩ : ∃ B, f x = B := ⟨_, rfl⟩
    rw [hB] at hts ⊢
    cases B with
    | true =>
      have : lb = true := by rw [hlb]; exact List.any_eq_true.2 ⟨x, List.mem_of_getElem? hx, hB⟩
      simp [h0, h1, h7, h8]
      exact finA_self ⟨⟨i, rfl, by simp [this]⟩, rfl⟩
    | false =>
      simp [h0, h1, h7, h8]
      exact turnA_self ⟨i + 1, by omega, by omega, hts, by simp [h0, h1, h7, h8, hwi, hpl]⟩
  · obtain rfl : i = l.length := by omega
    have : lb = false := by rw [hlb, ← hno, han]; simp
    simp [h0, h1, h7, h8]
    exact finA_self ⟨⟨-1, rfl, by rw [this]; simp⟩, rfl⟩
theorem w_ContainsFuncRowsL : ACalls Try.prog 77 [.sl l.length (l.map intL), fv] H fun r h' => r = .bool (l.any f) ∧ h' = H := by
  refine acalls_of Try.func77 rfl Try.call77 (by kernel_rfl) (by show _ ≤ (9 : Nat); simp) ?_
  have c := w_IndexFuncRowsL f fv H l hl hf
  obtain ⟨lb, hlb⟩ : ∃ lb, lb = l.any f := ⟨_, rfl⟩
  rw [← hlb] at c ⊢
  simp
  refine ACalls.mono c ?_
  rintro _ _ ⟨⟨k, rfl, hk⟩, rfl⟩
  simp
  refine finA_self ⟨?_, rfl⟩
  congr 1
  rw [Bool.eq_iff_iff, ← hk]; simp
end
theorem w_cO1L (n : Int) (b : Nat) (H : AHeap) (hb : ∀ off, cellsAt H b off = some (([.int .i64 n] : List AV).drop off)) (x : List Int) : ACallV Try.prog (.fn (.func 78) [] [.ptr b 0]) [intL x] H fun r h' => r = .bool (!decide ((x.length : Int) = n)) ∧ h' = H := by
  rw [ACallV_func]
  refine acalls_of Try.func78 rfl Try.call78 (by kernel_rfl) (by show _ ≤ (8 : Nat); simp) ?_
  simp [hb, -lenA, lenA_intL64]
  exact finA_self ⟨rfl, rfl⟩
/-- An offer with an empty row is none. -/
theorem w_checkOfferL (C : List (List Int)) (hl : C.length ≤ 4611686018427387904) (hz : ∃ r ∈ C, r = []) : Pure Try.prog 54 [.sl C.length (C.map intL)] (.int .i64 7) := by
  refine pure_of (acalls_of Try.func54 rfl Try.call54 (by kernel_rfl) (by show _ ≤ (28 : Nat); simp) ?_)
  have hpl : (C.map intL).length = C.length := by simp
  simp
  intro b3 hb3
  simp [splice]
  obtain ⟨r0, hr0, hre⟩ := hz
  have c1 : ¬ C.length = 0 := fun e => by rw [List.eq_nil_of_length_eq_zero e] at hr0; cases hr0
  have c1I : ¬ (C.length : Int) < 1 := by omega
  by_cases c2 : 12 < C.length
  · have c2I : (12 : Int) < (C.length : Int) := by omega
    simp [c1, c1I, c2, c2I]
    exact finA_drop rfl
  have c2I : ¬ (12 : Int) < (C.length : Int) := by omega
  simp [c1, c1I, c2, c2I]
  have cC := w_ContainsFuncRowsL (fun x => !decide ((x.length : Int) = (C.length : Int))) (.fn (.func 78) [] [.ptr b3 0]) (AHeap.empty.upd b3 (.cells [.int .i64 C.length])) C hl (fun x _ => w_cO1L C.length b3 _ (fun off => by simp) x)
  have hB : C.any (fun x => !decide ((x.length : Int) = (C.length : Int))) = true := List.any_eq_true.2 ⟨r0, hr0, by rw [hre]; simp; omega⟩
  rw [hB] at cC
  refine cC.use ?_
  simp
  exact finA_drop rfl
theorem w_ROfferL (C : List (List Int)) (hl : C.length ≤ 4611686018427387904) (hz : ∃ r ∈ C, r = []) : Pure Try.prog 15 [.sl C.length (C.map intL)] (.int .i64 7) := by
  refine pure_of (acalls_of Try.func15 rfl Try.call15 (by kernel_rfl) (by show _ ≤ (58 : Nat); simp) ?_)
  have hpl : (C.map intL).length = C.length := by simp
  obtain ⟨r0, hr0, hre⟩ := hz
  have c1 : ¬ C.length = 0 := fun e => by rw [List.eq_nil_of_length_eq_zero e] at hr0; cases hr0
  have c1I : ¬ (C.length : Int) < 1 := by omega
  have hC : ∀ h, lenA Try.prog h 22 (.sl C.length (C.map intL)) = some (.int .i64 (C.length : Int)) := fun h => by simp
  by_cases c2 : 12 < C.length
  · have c2I : (12 : Int) < (C.length : Int) := by omega
    simp [hC, c1, c1I, c2, c2I, -lenA]
    exact finA_drop rfl
  have c2I : ¬ (12 : Int) < (C.length : Int) := by omega
  simp [hC, c1, c1I, c2, c2I, -lenA]
  refine awp_loop_g (γ := Nat) (fun i t h => (i ≤ C.length) ∧ (∀ (j : Nat) (r : List Int), j < i → C[j]? = some r → r.length = C.length) ∧ t 0 = .sl C.length (C.map intL) ∧ t 3 = .int .i64 i ∧ h = AHeap.empty) (fun i => C.length - i) (0) (turnA_self ⟨Nat.zero_le _, (fun j r hj => absurd hj (Nat.not_lt_zero j)), by simp⟩) ?_
  rintro i t h ⟨hi, hno, h0, h3, rfl⟩
  by_cases hlt : i < C.length
  · have hltI : (i : Int) < (C.length : Int) := by omega
    have hwi : IntKind.i64.wrap ((i : Int) + 1) = (i : Int) + 1 := wrap_i64 (by omega) (by omega)
    obtain ⟨r, hri⟩ : ∃ r, C[i]? = some r := ⟨_, List.getElem?_eq_getElem hlt⟩
    have hat := rowsL_row hri
    by_cases c3 : r.length = C.length
    · have c3I : (r.length : Int) = (C.length : Int) := by omega
      simp [h0, h3, hC, hlt, hltI, hat, hpl, lenA_intL64, c3, c3I, -lenA]
      refine turnA_self ⟨i + 1, by omega, by omega, fun j r' hj hr' => ?_, by simp [h0, h3, hwi]⟩
      by_cases e : j = i
      · subst e
        rw [hri] at hr'; cases hr'; exact c3
      · exact hno j r' (by omega) hr'
    · have c3I : ¬ (r.length : Int) = (C.length : Int) := by omega
      simp [h0, h3, hC, hlt, hltI, hat, hpl, lenA_intL64, c3, c3I, -lenA]
      exact finA_drop rfl
  exfalso
  obtain ⟨j, hj, e⟩ := List.getElem_of_mem hr0
  have := hno j r0 (by omega) (by rw [List.getElem?_eq_getElem hj, e])
  rw [hre] at this
  simp at this
  omega
section
variable {V : AV} {e : Int} (he : e ≠ 0) (cc : Pure Try.prog 54 [V] (.int .i64 e))
include he cc
theorem e_Assign : Pure Try.prog 13 [V] (.tup [.nilsl, .int .i64 0, .int .i64 e]) := by
  refine pure_of (acalls_of Try.func13 rfl Try.call13 (by kernel_rfl) (by show _ ≤ (77 : Nat); simp) ?_)
  simp
  refine cc.use ?_
  simp [he]
  exact finA_drop rfl
theorem e_Prices : Pure Try.prog 14 [V] (.tup [.nilsl, .nilsl, .int .i64 e]) := by
  refine pure_of (acalls_of Try.func14 rfl Try.call14 (by kernel_rfl) (by show _ ≤ (19 : Nat); simp) ?_)
  simp
  refine cc.use ?_
  simp [he]
  exact finA_drop rfl
theorem e_ArePrices (u v : AV) (w : Int) : Pure Try.prog 16 [V, u, v, .int .i64 w] (.bool false) := by
  refine pure_of (acalls_of Try.func16 rfl Try.call16 (by kernel_rfl) (by show _ ≤ (78 : Nat); simp) ?_)
  simp
  refine cc.use ?_
  simp [he]
  exact finA_drop rfl
end
theorem w_checkOffer0 : Pure Try.prog 54 [.nilsl] (.int .i64 7) := by
  refine pure_of (acalls_of Try.func54 rfl Try.call54 (by kernel_rfl) (by show _ ≤ (28 : Nat); simp) ?_)
  simp
  intro b3 hb3
  simp [splice]
  exact finA_drop rfl
theorem w_ROffer0 : Pure Try.prog 15 [.nilsl] (.int .i64 7) := by
  refine pure_of (acalls_of Try.func15 rfl Try.call15 (by kernel_rfl) (by show _ ≤ (58 : Nat); simp) ?_)
  simp
  exact finA_drop rfl
/-- An offer as the law cuts it: what both checks say. -/
structure OfV (V : AV) (e : Int) : Prop where
  chk : Pure Try.prog 54 [V] (.int .i64 e)
  ref : Pure Try.prog 15 [V] (.int .i64 e)
/-- Any list of rows, told as the law grows it. -/
def rowsV (C : List (List Int)) : AV := if C = [] then .nilsl else .sl C.length (C.map intL)
theorem rowsV_of (C : List (List Int)) (hl : C.length ≤ 14) (hr : ∀ r ∈ C, r.length ≤ 14) : (∃ e, e ≠ 0 ∧ OfV (rowsV C) e) ∨ (OffOk C C.length ∧ rowsV C = .sl C.length (partsC C) ∧ OfV (rowsV C) 0) := by
  unfold rowsV
  by_cases h0 : C = []
  · rw [if_pos h0]; exact .inl ⟨7, by omega, w_checkOffer0, w_ROffer0⟩
  rw [if_neg h0]
  by_cases hz : ∃ r ∈ C, r = []
  · exact .inl ⟨7, by omega, w_checkOfferL C (by omega) hz, w_ROfferL C (by omega) hz⟩
  have hC : C.map intL = partsC C := by
    unfold partsC
    refine List.map_congr_left fun r hr => ?_
    unfold intL
    rw [if_neg (fun e => hz ⟨r, hr, e⟩)]
  rw [hC]
  have c1 := w_checkOffer C (by omega) (fun r h => by have := hr r h; omega)
  have c2 := w_ROffer C (by omega)
  by_cases e : chkO C = 0
  · rw [e] at c1 c2
    exact .inr ⟨chkO_ok e, rfl, c1, c2⟩
  · exact .inl ⟨chkO C, e, c1, c2⟩
end Go.Proofs
