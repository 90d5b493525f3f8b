/-
  Texts: PbF PbG PbH PbI.
-/
import Derived.Test.YtkdhgablioljnaaP5
set_option linter.unusedSimpArgs false
set_option linter.unusedVariables false
set_option linter.unusedSectionVars false
section
/-
  Pair: what is wrong with an offer.
-/
namespace Go.Proofs
open Go Go.AH
set_option maxRecDepth 10000
set_option maxHeartbeats 4000000

def OSh (C : List (List Int)) : Prop := 1 ≤ C.length ∧ C.length ≤ 12 ∧ ∀ r ∈ C, r.length = C.length
def OSm (C : List (List Int)) : Prop := ∀ r ∈ C, ∀ x ∈ r, -1000000 ≤ x ∧ x ≤ 1000000
open Classical in
noncomputable def chkO (C : List (List Int)) : Int := if OSh C then (if OSm C then 0 else 1) else 7
theorem chkO_ok {C : List (List Int)} (h : chkO C = 0) : OffOk C C.length := by
  unfold chkO at h
  split at h
  · next h1 =>
    split at h
    · next h2 => exact ⟨rfl, ⟨h1.1, h1.2.1⟩, h1.2.2, h2⟩
    · exact absurd h (by omega)
  · exact absurd h (by omega)
theorem OffOk.chk {C : List (List Int)} {n : Nat} (O : OffOk C n) : chkO C = 0 := by
  unfold chkO
  have h1 : OSh C := ⟨by rw [O.len]; exact O.n1.1, by rw [O.len]; exact O.n1.2, fun r hr => by rw [O.len]; exact O.rows r hr⟩
  have h2 : OSm C := O.sm
  rw [if_pos h1, if_pos h2]
theorem lenA_intL64 {h : AHeap} (l : List Int) : lenA Try.prog h 23 (intL l) = some (.int .i64 (l.length : Int)) := by
  unfold intL
  split
  · next e => subst e; simp
  · simp
section
variable (f : Int → Bool) (fv : AV) (H : AHeap) (l : List (Int)) (hl : l.length ≤ 4611686018427387904)
  (hf : ∀ x ∈ l, ACallV Try.prog fv [.int .i64 x] H fun r h' => r = .bool (f x) ∧ h' = H)
include hl hf
theorem w_IndexFunc64 : ACalls Try.prog 86 [intL l, fv] H fun r h' => (∃ k : Int, r = .int .i64 k ∧ (0 ≤ k ↔ l.any f = true)) ∧ h' = H := by
  refine acalls_of Try.func86 rfl Try.call86 (by kernel_rfl) (by show _ ≤ (19 : Nat); simp) ?_
  obtain ⟨lb, hlb⟩ : ∃ lb, lb = l.any f := ⟨_, rfl⟩
  rw [← hlb]
  obtain ⟨an, han⟩ : ∃ an : Nat → Bool, an = fun i => (l.take i).any f := ⟨_, rfl⟩
  have an0 : an 0 = false := by rw [han]; simp
  simp [-lenA, lenA_intL64]
  refine awp_loop_g (γ := Nat) (fun i t h => (i ≤ l.length) ∧ (an i = false) ∧ t 0 = intL l ∧ t 1 = fv ∧ t 7 = .int .i64 l.length ∧ t 8 = .int .i64 i ∧ h = H) (fun i => l.length - i) (0) (turnA_self ⟨Nat.zero_le _, an0, by simp⟩) ?_
  rintro i t hx ⟨hi, hno, h0, h1, h7, h8, ex⟩
  rw [ex]
  clear ex
  by_cases hlt : i < l.length
  · have hltI : (i : Int) < (l.length : Int) := by omega
    have hwi : IntKind.i64.wrap ((i : Int) + 1) = (i : Int) + 1 := wrap_i64 (by omega) (by omega)
    obtain ⟨x, hx⟩ : ∃ x, l[i]? = some x := ⟨_, List.getElem?_eq_getElem hlt⟩
    have hat := intC_at hx
    have hts : an (i + 1) = f x := by
      obtain ⟨hi', e'⟩ := List.getElem?_eq_some_iff.1 hx
      rw [han] at hno ⊢
      simp only at hno ⊢
      rw [List.take_succ_eq_append_getElem hi', e', List.any_append, hno]; simp
    simp [h0, h1, h7, h8, hlt, hltI, hat, intL_ne hlt]
    refine (hf x (List.mem_of_getElem? hx)).use ?_
    obtain ⟨B, hB⟩ : ∃ B, f x = B := ⟨_, rfl⟩
    rw [hB] at hts ⊢
    cases B with
    | true =>
      have : lb = true := by rw [hlb]; exact List.any_eq_true.2 ⟨x, List.mem_of_getElem? hx, hB⟩
      simp [h0, h1, h7, h8]
      exact finA_self ⟨⟨i, rfl, by simp [this]⟩, rfl⟩
    | false =>
      simp [h0, h1, h7, h8]
      exact turnA_self ⟨i + 1, by omega, by omega, hts, by simp [h0, h1, h7, h8, hwi, intL_ne hlt]⟩
  · obtain rfl : i = l.length := by omega
    have : lb = false := by rw [hlb, ← hno, han]; simp
    simp [h0, h1, h7, h8]
    exact finA_self ⟨⟨-1, rfl, by rw [this]; simp⟩, rfl⟩
theorem w_ContainsFunc64 : ACalls Try.prog 60 [intL l, fv] H fun r h' => r = .bool (l.any f) ∧ h' = H := by
  refine acalls_of Try.func60 rfl Try.call60 (by kernel_rfl) (by show _ ≤ (9 : Nat); simp) ?_
  have c := w_IndexFunc64 f fv H l hl hf
  obtain ⟨lb, hlb⟩ : ∃ lb, lb = l.any f := ⟨_, rfl⟩
  rw [← hlb] at c ⊢
  simp
  refine ACalls.mono c ?_
  rintro _ _ ⟨⟨k, rfl, hk⟩, rfl⟩
  simp
  refine finA_self ⟨?_, rfl⟩
  congr 1
  rw [Bool.eq_iff_iff, ← hk]; simp
end
section
variable (f : List Int → Bool) (fv : AV) (H : AHeap) (l : List (List Int)) (hl : l.length ≤ 4611686018427387904)
  (hf : ∀ x ∈ l, ACallV Try.prog fv [.sl x.length (intC x)] H fun r h' => r = .bool (f x) ∧ h' = H)
include hl hf
theorem w_IndexFuncRows : ACalls Try.prog 90 [.sl l.length (partsC l), fv] H fun r h' => (∃ k : Int, r = .int .i64 k ∧ (0 ≤ k ↔ l.any f = true)) ∧ h' = H := by
  refine acalls_of Try.func90 rfl Try.call90 (by kernel_rfl) (by show _ ≤ (19 : Nat); simp) ?_
  obtain ⟨lb, hlb⟩ : ∃ lb, lb = l.any f := ⟨_, rfl⟩
  rw [← hlb]
  obtain ⟨an, han⟩ : ∃ an : Nat → Bool, an = fun i => (l.take i).any f := ⟨_, rfl⟩
  have hpl : (partsC l).length = l.length := by simp [partsC]
  have an0 : an 0 = false := by rw [han]; simp
  simp [hpl]
  refine awp_loop_g (γ := Nat) (fun i t h => (i ≤ l.length) ∧ (an i = false) ∧ t 0 = .sl l.length (partsC l) ∧ t 1 = fv ∧ t 7 = .int .i64 l.length ∧ t 8 = .int .i64 i ∧ h = H) (fun i => l.length - i) (0) (turnA_self ⟨Nat.zero_le _, an0, by simp⟩) ?_
  rintro i t hx ⟨hi, hno, h0, h1, h7, h8, ex⟩
  rw [ex]
  clear ex
  by_cases hlt : i < l.length
  · have hltI : (i : Int) < (l.length : Int) := by omega
    have hwi : IntKind.i64.wrap ((i : Int) + 1) = (i : Int) + 1 := wrap_i64 (by omega) (by omega)
    obtain ⟨x, hx⟩ : ∃ x, l[i]? = some x := ⟨_, List.getElem?_eq_getElem hlt⟩
    have hat := partsC_row hx
    have hts : an (i + 1) = f x := by
      obtain ⟨hi', e'⟩ := List.getElem?_eq_some_iff.1 hx
      rw [han] at hno ⊢
      simp only at hno ⊢
      rw [List.take_succ_eq_append_getElem hi', e', List.any_append, hno]; simp
    simp [h0, h1, h7, h8, hlt, hltI, hat, hpl]
    refine (hf x (List.mem_of_getElem? hx)).use ?_
    obtain ⟨B, hB⟩ : ∃ B, f x = B := ⟨_, rfl⟩
    rw [hB] at hts ⊢
    cases B with
    | true =>
      have : lb = true := by rw [hlb]; exact List.any_eq_true.2 ⟨x, List.mem_of_getElem? hx, hB⟩
      simp [h0, h1, h7, h8]
      exact finA_self ⟨⟨i, rfl, by simp [this]⟩, rfl⟩
    | false =>
      simp [h0, h1, h7, h8]
      exact turnA_self ⟨i + 1, by omega, by omega, hts, by simp [h0, h1, h7, h8, hwi, hpl]⟩
  · obtain rfl : i = l.length := by omega
    have : lb = false := by rw [hlb, ← hno, han]; simp
    simp [h0, h1, h7, h8]
    exact finA_self ⟨⟨-1, rfl, by rw [this]; simp⟩, rfl⟩
theorem w_ContainsFuncRows : ACalls Try.prog 77 [.sl l.length (partsC l), fv] H fun r h' => r = .bool (l.any f) ∧ h' = H := by
  refine acalls_of Try.func77 rfl Try.call77 (by kernel_rfl) (by show _ ≤ (9 : Nat); simp) ?_
  have c := w_IndexFuncRows f fv H l hl hf
  obtain ⟨lb, hlb⟩ : ∃ lb, lb = l.any f := ⟨_, rfl⟩
  rw [← hlb] at c ⊢
  simp
  refine ACalls.mono c ?_
  rintro _ _ ⟨⟨k, rfl, hk⟩, rfl⟩
  simp
  refine finA_self ⟨?_, rfl⟩
  congr 1
  rw [Bool.eq_iff_iff, ← hk]; simp
end
end Go.Proofs

end

section
/-
  Pair: what is wrong with an offer, by both.
-/
namespace Go.Proofs
open Go Go.AH
set_option maxRecDepth 10000
set_option maxHeartbeats 4000000

theorem chkO_7 {C : List (List Int)} (h : ¬ OSh C) : chkO C = 7 := by unfold chkO; rw [if_neg h]
theorem chkO_1 {C : List (List Int)} (h : OSh C) (h2 : ¬ OSm C) : chkO C = 1 := by unfold chkO; rw [if_pos h, if_neg h2]
theorem chkO_0 {C : List (List Int)} (h : OSh C) (h2 : OSm C) : chkO C = 0 := by unfold chkO; rw [if_pos h, if_pos h2]
theorem w_cO1 (n : Int) (b : Nat) (H : AHeap) (hb : ∀ off, cellsAt H b off = some (([.int .i64 n] : List AV).drop off)) (x : List Int) : ACallV Try.prog (.fn (.func 78) [] [.ptr b 0]) [.sl x.length (intC x)] H fun r h' => r = .bool (!decide ((x.length : Int) = n)) ∧ h' = H := by
  rw [ACallV_func]
  refine acalls_of Try.func78 rfl Try.call78 (by kernel_rfl) (by show _ ≤ (8 : Nat); simp) ?_
  simp [hb]
  exact finA_self ⟨rfl, rfl⟩
theorem w_cO2 (x : Int) (H : AHeap) : ACallV Try.prog (.fn (.func 79) [] []) [.int .i64 x] H fun r h' => r = .bool (decide (x < -1000000) || decide (1000000 < x)) ∧ h' = H := by
  rw [ACallV_func]
  refine acalls_of Try.func79 rfl Try.call79 (by kernel_rfl) (by show _ ≤ (9 : Nat); simp) ?_
  by_cases c1 : x < -1000000
  · simp [c1]
    exact finA_self ⟨rfl, rfl⟩
  · simp [c1]
    exact finA_self ⟨rfl, rfl⟩
theorem w_great (x : Int) (H : AHeap) : ACallV Try.prog (.fn (.func 59) [] []) [.int .i64 x] H fun r h' => r = .bool (decide (x < -1000000000000000) || decide (1000000000000000 < x)) ∧ h' = H := by
  rw [ACallV_func]
  refine acalls_of Try.func59 rfl Try.call59 (by kernel_rfl) (by show _ ≤ (9 : Nat); simp) ?_
  by_cases c1 : x < -1000000000000000
  · simp [c1]
    exact finA_self ⟨rfl, rfl⟩
  · simp [c1]
    exact finA_self ⟨rfl, rfl⟩
theorem w_checkOffer (C : List (List Int)) (hl : C.length ≤ 4611686018427387904) (hr : ∀ r ∈ C, r.length ≤ 4611686018427387904) : Pure Try.prog 54 [.sl C.length (partsC C)] (.int .i64 (chkO C)) := by
  refine pure_of (acalls_of Try.func54 rfl Try.call54 (by kernel_rfl) (by show _ ≤ (28 : Nat); simp) ?_)
  obtain ⟨e, he⟩ : ∃ e, e = chkO C := ⟨_, rfl⟩
  rw [← he]
  have hpl : (partsC C).length = C.length := by simp [partsC]
  simp
  intro b3 hb3
  simp [splice]
  by_cases c1 : C.length = 0
  · have := he.trans (chkO_7 (fun q => by have := q.1; omega))
    simp [c1]
    exact finA_drop (by rw [this])
  have c1I : ¬ (C.length : Int) < 1 := by omega
  by_cases c2 : 12 < C.length
  · have c2I : (12 : Int) < (C.length : Int) := by omega
    have := he.trans (chkO_7 (fun q => by have := q.2.1; omega))
    simp [c1, c1I, c2, c2I]
    exact finA_drop (by rw [this])
  have c2I : ¬ (12 : Int) < (C.length : Int) := by omega
  simp [c1, c1I, c2, c2I]
  have cC := w_ContainsFuncRows (fun x => !decide ((x.length : Int) = (C.length : Int))) (.fn (.func 78) [] [.ptr b3 0]) (AHeap.empty.upd b3 (.cells [.int .i64 C.length])) C hl (fun x _ => w_cO1 C.length b3 _ (fun off => by simp) x)
  obtain ⟨B, hB⟩ : ∃ B, C.any (fun x => !decide ((x.length : Int) = (C.length : Int))) = B := ⟨_, rfl⟩
  rw [hB] at cC
  refine cC.use ?_
  cases B with
  | true =>
    have := he.trans (chkO_7 (fun q => by
      obtain ⟨x, hx, h⟩ := List.any_eq_true.1 hB
      have := q.2.2 x hx
      simp [this] at h))
    simp
    exact finA_drop (by rw [this])
  | false =>
    have hsh : OSh C := ⟨by omega, by omega, fun x hx => by
      have := List.any_eq_false.1 hB x hx
      simp at this
      omega⟩
    simp
    refine awp_loop_g (γ := Nat) (fun i t h => (i ≤ C.length) ∧ (∀ (j : Nat) (r : List Int), j < i → C[j]? = some r → ∀ x ∈ r, -1000000 ≤ x ∧ x ≤ 1000000) ∧ t 19 = .sl C.length (partsC C) ∧ t 20 = .int .i64 C.length ∧ t 21 = .int .i64 i) (fun i => C.length - i) (0) (turnA_self ⟨Nat.zero_le _, (fun j r hj => absurd hj (Nat.not_lt_zero j)), by simp⟩) ?_
    rintro i t h ⟨hi, hno, h19, h20, h21⟩
    by_cases hlt : i < C.length
    · have hltI : (i : Int) < (C.length : Int) := by omega
      have hwi : IntKind.i64.wrap ((i : Int) + 1) = (i : Int) + 1 := wrap_i64 (by omega) (by omega)
      obtain ⟨r, hri⟩ : ∃ r, C[i]? = some r := ⟨_, List.getElem?_eq_getElem hlt⟩
      have hrm := List.mem_of_getElem? hri
      have hat := partsC_row hri
      have hrl := hsh.2.2 r hrm
      have hrE : AV.sl r.length (intC r) = intL r := (intL_ne (i := 0) (by omega)).symm
      have c6 := w_ContainsFunc64 (fun x => decide (x < -1000000) || decide (1000000 < x)) (.fn (.func 79) [] []) h r (by omega) (fun x _ => w_cO2 x h)
      obtain ⟨B2, hB2⟩ : ∃ B2, r.any (fun x => decide (x < -1000000) || decide (1000000 < x)) = B2 := ⟨_, rfl⟩
      rw [hB2] at c6
      rw [hrE] at hat
      simp [h19, h20, h21, hlt, hltI, hat, hpl]
      refine c6.use ?_
      cases B2 with
      | true =>
        have := he.trans (chkO_1 hsh (fun q => by
          obtain ⟨x, hx, h⟩ := List.any_eq_true.1 hB2
          have := q r hrm x hx
          simp at h
          omega))
        simp [h19, h20, h21]
        exact finA_drop (by rw [this])
      | false =>
        simp [h19, h20, h21]
        refine turnA_self ⟨i + 1, by omega, by omega, fun j r' hj hr' x hx => ?_, by simp [h19, h20, h21, hwi]⟩
        by_cases e : j = i
        · subst e
          rw [hri] at hr'; cases hr'
          have := List.any_eq_false.1 hB2 x hx
          simp at this
          omega
        · exact hno j r' (by omega) hr' x hx
    · obtain rfl : i = C.length := by omega
      have := he.trans (chkO_0 hsh (fun r hr x hx => by
        obtain ⟨j, hj, e⟩ := List.getElem_of_mem hr
        exact hno j r hj (by rw [List.getElem?_eq_getElem hj, e]) x hx))
      simp [h19, h20, h21]
      exact finA_drop (by rw [this])
theorem w_ROffer (C : List (List Int)) (hl : C.length ≤ 4611686018427387904) : Pure Try.prog 15 [.sl C.length (partsC C)] (.int .i64 (chkO C)) := by
  refine pure_of (acalls_of Try.func15 rfl Try.call15 (by kernel_rfl) (by show _ ≤ (58 : Nat); simp) ?_)
  obtain ⟨e, he⟩ : ∃ e, e = chkO C := ⟨_, rfl⟩
  rw [← he]
  have hpl : (partsC C).length = C.length := by simp [partsC]
  by_cases c1 : C.length = 0
  · have := he.trans (chkO_7 (fun q => by have := q.1; omega))
    simp [c1]
    exact finA_drop (by rw [this])
  have c1I : ¬ (C.length : Int) < 1 := by omega
  by_cases c2 : 12 < C.length
  · have c2I : (12 : Int) < (C.length : Int) := by omega
    have := he.trans (chkO_7 (fun q => by have := q.2.1; omega))
    simp [c1, c1I, c2, c2I]
    exact finA_drop (by rw [this])
  have c2I : ¬ (12 : Int) < (C.length : Int) := by omega
  simp [c1, c1I, c2, c2I]
  refine awp_loop_g (γ := Nat) (fun i t h => (i ≤ C.length) ∧ (∀ (j : Nat) (r : List Int), j < i → C[j]? = some r → r.length = C.length) ∧ t 0 = .sl C.length (partsC C) ∧ t 3 = .int .i64 i ∧ h = AHeap.empty) (fun i => C.length - i) (0) (turnA_self ⟨Nat.zero_le _, (fun j r hj => absurd hj (Nat.not_lt_zero j)), by simp⟩) ?_
  rintro i t h ⟨hi, hno, h0, h3, rfl⟩
  by_cases hlt : i < C.length
  · have hltI : (i : Int) < (C.length : Int) := by omega
    have hwi : IntKind.i64.wrap ((i : Int) + 1) = (i : Int) + 1 := wrap_i64 (by omega) (by omega)
    obtain ⟨r, hri⟩ : ∃ r, C[i]? = some r := ⟨_, List.getElem?_eq_getElem hlt⟩
    have hrm := List.mem_of_getElem? hri
    have hat := partsC_row hri
    by_cases c3 : r.length = C.length
    · have c3I : (r.length : Int) = (C.length : Int) := by omega
      simp [h0, h3, hlt, hltI, hat, hpl, c3, c3I]
      refine turnA_self ⟨i + 1, by omega, by omega, fun j r' hj hr' => ?_, by simp [h0, h3, hwi]⟩
      by_cases e : j = i
      · subst e
        rw [hri] at hr'; cases hr'; exact c3
      · exact hno j r' (by omega) hr'
    · have c3I : ¬ (r.length : Int) = (C.length : Int) := by omega
      have := he.trans (chkO_7 (fun q => c3 (q.2.2 r hrm)))
      simp [h0, h3, hlt, hltI, hat, hpl, c3, c3I]
      exact finA_drop (by rw [this])
  have hiE : i = C.length := by omega
  rw [hiE] at hno
  have hsh : OSh C := ⟨by omega, by omega, fun r hr => by
    obtain ⟨j, hj, e⟩ := List.getElem_of_mem hr
    exact hno j r hj (by rw [List.getElem?_eq_getElem hj, e])⟩
  simp [h0, h3, hiE]
  refine awp_loop_g (γ := Nat) (fun i t h => (i ≤ C.length) ∧ (∀ (j : Nat) (r : List Int), j < i → C[j]? = some r → ∀ x ∈ r, -1000000 ≤ x ∧ x ≤ 1000000) ∧ t 0 = .sl C.length (partsC C) ∧ t 4 = .int .i64 i ∧ h = AHeap.empty) (fun i => C.length - i) (0) (turnA_self ⟨Nat.zero_le _, (fun j r hj => absurd hj (Nat.not_lt_zero j)), by simp [h0, h3]⟩) ?_
  rintro i t h ⟨hi2, hn2, h0, h4, rfl⟩
  by_cases hlt2 : i < C.length
  · have hltI : (i : Int) < (C.length : Int) := by omega
    have hwi : IntKind.i64.wrap ((i : Int) + 1) = (i : Int) + 1 := wrap_i64 (by omega) (by omega)
    obtain ⟨r, hri⟩ : ∃ r, C[i]? = some r := ⟨_, List.getElem?_eq_getElem hlt2⟩
    have hrm := List.mem_of_getElem? hri
    have hat := partsC_row hri
    have hrl := hsh.2.2 r hrm
    simp [h0, h4, hlt2, hltI]
    refine awp_loop_g (γ := Nat) (fun k t h => (k ≤ C.length) ∧ (∀ (j : Nat) (x : Int), j < k → r[j]? = some x → -1000000 ≤ x ∧ x ≤ 1000000) ∧ t 0 = .sl C.length (partsC C) ∧ t 4 = .int .i64 i ∧ t 5 = .int .i64 k ∧ h = AHeap.empty) (fun k => C.length - k) (0) (turnA_self ⟨Nat.zero_le _, (fun j x hj => absurd hj (Nat.not_lt_zero j)), by simp [h0, h4]⟩) ?_
    rintro k t h ⟨hk, hn3, h0, h4, h5, rfl⟩
    by_cases hkn : k < C.length
    · have hknI : (k : Int) < (C.length : Int) := by omega
      have hwk : IntKind.i64.wrap ((k : Int) + 1) = (k : Int) + 1 := wrap_i64 (by omega) (by omega)
      obtain ⟨x, hx⟩ : ∃ x, r[k]? = some x := ⟨_, List.getElem?_eq_getElem (by omega)⟩
      have hax := intC_at hx
      have bad : ¬ (-1000000 ≤ x ∧ x ≤ 1000000) → e = 1 := fun q => he.trans (chkO_1 hsh (fun z => q (z r hrm x (List.mem_of_getElem? hx))))
      by_cases d1 : x < -1000000
      · have := bad (by omega)
        simp [h0, h4, h5, hlt2, hltI, hkn, hknI, hat, hpl, hrl, hax, d1]
        exact finA_drop (by rw [this])
      by_cases d2 : 1000000 < x
      · have := bad (by omega)
        simp [h0, h4, h5, hlt2, hltI, hkn, hknI, hat, hpl, hrl, hax, d1, d2]
        exact finA_drop (by rw [this])
      simp [h0, h4, h5, hlt2, hltI, hkn, hknI, hat, hpl, hrl, hax, d1, d2]
      refine turnA_self ⟨k + 1, by omega, by omega, fun j y hj hy => ?_, by simp [h0, h4, h5, hwk]⟩
      by_cases e : j = k
      · subst e
        rw [hx] at hy; cases hy; omega
      · exact hn3 j y (by omega) hy
    · have hkE : k = C.length := by omega
      simp [h0, h4, h5, hkE]
      refine turnA_self ⟨i + 1, by omega, by omega, fun j r' hj hr' x hx => ?_, by simp [h0, h4, h5, hwi]⟩
      by_cases e : j = i
      · subst e
        rw [hri] at hr'; cases hr'
        obtain ⟨m, hm, e⟩ := List.getElem_of_mem hx
        exact hn3 m x (by omega) (by rw [List.getElem?_eq_getElem hm, e])
      · exact hn2 j r' (by omega) hr' x hx
  have hiE2 : i = C.length := by omega
  rw [hiE2] at hn2
  have := he.trans (chkO_0 hsh (fun r hr x hx => by
    obtain ⟨j, hj, e⟩ := List.getElem_of_mem hr
    exact hn2 j r hj (by rw [List.getElem?_eq_getElem hj, e]) x hx))
  simp [h0, h4, hiE2]
  exact finA_drop (by rw [this])
end Go.Proofs

end

section
/-
  Pair: whether numbers are prices, by both.
-/
namespace Go.Proofs
open Go Go.AH
set_option maxRecDepth 10000
set_option maxHeartbeats 4000000

def lF (l : List Int) (i : Nat) : Int := (l[i]?).getD 0
theorem lF_get {l : List Int} {i : Nat} (h : i < l.length) : l[i]? = some (lF l i) := by
  unfold lF; rw [List.getElem?_eq_getElem h]; rfl
def smF (f : Nat → Int) : Nat → Int
  | 0 => 0
  | k + 1 => smF f k + f k
def big (x : Int) : Prop := -1000000000000000 ≤ x ∧ x ≤ 1000000000000000
structure PrOk (C : List (List Int)) (u v : List Int) (w : Int) : Prop where
  chk : chkO C = 0
  ul : u.length = C.length
  vl : v.length = C.length
  ub : ∀ i, i < C.length → big (lF u i)
  vb : ∀ i, i < C.length → big (lF v i)
  fe : ∀ i j, i < C.length → j < C.length → cF C i j ≤ lF u i + lF v j
  sm : smF (fun i => lF u i + lF v i) C.length = w
open Classical in
noncomputable def prB (C : List (List Int)) (u v : List Int) (w : Int) : Bool := decide (PrOk C u v w)
theorem prB_no {C : List (List Int)} {u v : List Int} {w : Int} (h : ¬ PrOk C u v w) : prB C u v w = false := by unfold prB; simp [h]
theorem prB_yes {C : List (List Int)} {u v : List Int} {w : Int} (h : PrOk C u v w) : prB C u v w = true := by unfold prB; simp [h]
theorem smF_le {u v : Nat → Int} {n : Nat} (hu : ∀ i, i < n → big (u i)) (hv : ∀ i, i < n → big (v i)) : ∀ k, k ≤ n → -(2000000000000000 * (k : Int)) ≤ smF (fun i => u i + v i) k ∧ smF (fun i => u i + v i) k ≤ 2000000000000000 * k
  | 0, _ => by simp [smF]
  | k + 1, h => by
    have ih := smF_le hu hv k (by omega)
    have h1 := hu k (by omega)
    have h2 := hv k (by omega)
    unfold big at h1 h2
    simp only [smF]
    omega
theorem big_any {l : List Int} : l.any (fun x => decide (x < -1000000000000000) || decide (1000000000000000 < x)) = false ↔ ∀ i, i < l.length → big (lF l i) := by
  rw [List.any_eq_false]
  constructor
  · intro h i hi
    have := h (lF l i) (List.mem_of_getElem? (lF_get hi))
    simp at this
    unfold big
    omega
  · intro h x hx
    obtain ⟨i, hi, e⟩ := List.getElem_of_mem hx
    have := h i hi
    unfold big lF at this
    rw [List.getElem?_eq_getElem hi] at this
    simp only [Option.getD_some, e] at this
    simp
    omega
theorem w_ArePrices (C : List (List Int)) (hl : C.length ≤ 4611686018427387904) (hr : ∀ r ∈ C, r.length ≤ 4611686018427387904) (u v : List Int) (hu : u.length ≤ 4611686018427387904) (hv : v.length ≤ 4611686018427387904) (w : Int) : Pure Try.prog 16 [.sl C.length (partsC C), intL u, intL v, .int .i64 w] (.bool (prB C u v w)) := by
  refine pure_of (acalls_of Try.func16 rfl Try.call16 (by kernel_rfl) (by show _ ≤ (78 : Nat); simp) ?_)
  obtain ⟨e, he⟩ : ∃ e, e = prB C u v w := ⟨_, rfl⟩
  rw [← he]
  have bad : ¬ PrOk C u v w → e = false := fun q => he.trans (prB_no q)
  have hpl : (partsC C).length = C.length := by simp [partsC]
  have cc := w_checkOffer C hl hr
  simp
  refine cc.use ?_
  by_cases c0 : chkO C = 0
  rotate_left
  · have := bad (fun q => c0 q.chk)
    simp [c0]
    exact finA_drop (by rw [this])
  have O := chkO_ok c0
  obtain ⟨n, hn⟩ : ∃ n, n = C.length := ⟨_, rfl⟩
  have hul : ∀ h : AHeap, lenA Try.prog h 23 (intL u) = some (.int .i64 (u.length : Int)) := fun h => lenA_intL64 u
  have hvl : ∀ h : AHeap, lenA Try.prog h 23 (intL v) = some (.int .i64 (v.length : Int)) := fun h => lenA_intL64 v
  have hCl : ∀ h : AHeap, lenA Try.prog h 22 (.sl C.length (partsC C)) = some (.int .i64 (C.length : Int)) := fun h => by simp
  by_cases c1 : u.length = C.length
  rotate_left
  · have := bad (fun q => c1 q.ul)
    have c1I : ¬ (u.length : Int) = (C.length : Int) := by omega
    simp [c0, hul, hCl, c1, c1I, -lenA]
    exact finA_drop (by rw [this])
  by_cases c2 : v.length = C.length
  rotate_left
  · have := bad (fun q => c2 q.vl)
    have c2I : ¬ (v.length : Int) = (C.length : Int) := by omega
    simp [c0, hul, hvl, hCl, c1, c2, c2I, -lenA]
    exact finA_drop (by rw [this])
  have cu := w_ContainsFunc64 (fun x => decide (x < -1000000000000000) || decide (1000000000000000 < x)) (.fn (.func 59) [] []) AHeap.empty u hu (fun x _ => w_great x _)
  have cv := w_ContainsFunc64 (fun x => decide (x < -1000000000000000) || decide (1000000000000000 < x)) (.fn (.func 59) [] []) AHeap.empty v hv (fun x _ => w_great x _)
  obtain ⟨A1, hA1⟩ : ∃ A1, u.any (fun x => decide (x < -1000000000000000) || decide (1000000000000000 < x)) = A1 := ⟨_, rfl⟩
  obtain ⟨A2, hA2⟩ : ∃ A2, v.any (fun x => decide (x < -1000000000000000) || decide (1000000000000000 < x)) = A2 := ⟨_, rfl⟩
  rw [hA1] at cu
  rw [hA2] at cv
  simp [c0, hul, hvl, hCl, c1, c2, -lenA]
  refine cu.use ?_
  cases A1 with
  | true =>
    have := bad (fun q => by
      have := big_any.2 (fun i hi => q.ub i (by omega))
      rw [hA1] at this; cases this)
    simp
    exact finA_drop (by rw [this])
  | false =>
    simp
    refine cv.use ?_
    cases A2 with
    | true =>
      have := bad (fun q => by
        have := big_any.2 (fun i hi => q.vb i (by omega))
        rw [hA2] at this; cases this)
      simp
      exact finA_drop (by rw [this])
    | false =>
      have hub := big_any.1 hA1
      have hvb := big_any.1 hA2
      have n1 := O.n1
      have hun : u ≠ [] := fun e => by rw [e] at c1; simp at c1; omega
      have hus : intL u = .sl u.length (intC u) := intL_ne (i := 0) (by omega)
      have hvs : intL v = .sl v.length (intC v) := intL_ne (i := 0) (by omega)
      rw [hus, hvs, c1, c2]
      obtain ⟨sF, hsF⟩ : ∃ sF : Nat → Int, sF = smF (fun i => lF u i + lF v i) := ⟨_, rfl⟩
      have s0 : sF 0 = 0 := by rw [hsF]; rfl
      have ss : ∀ k, sF (k + 1) = sF k + (lF u k + lF v k) := fun k => by rw [hsF]; rfl
      have sb : ∀ k, k ≤ C.length → -(2000000000000000 * (k : Int)) ≤ sF k ∧ sF k ≤ 2000000000000000 * k := fun k hk => by
        rw [hsF]; exact smF_le (n := C.length) (fun i hi => hub i (by omega)) (fun i hi => hvb i (by omega)) k hk
      simp
      refine awp_loop_g (γ := Nat) (fun i t h => (i ≤ C.length) ∧ (∀ a b, a < i → b < C.length → cF C a b ≤ lF u a + lF v b) ∧ t 0 = .sl C.length (partsC C) ∧ t 2 = .sl C.length (intC v) ∧ t 3 = .int .i64 w ∧ t 10 = .int .i64 (sF i) ∧ t 40 = .sl C.length (intC u) ∧ t 41 = .int .i64 C.length ∧ t 42 = .int .i64 i ∧ h = AHeap.empty) (fun i => C.length - i) (0) (turnA_self ⟨Nat.zero_le _, (fun a b ha => absurd ha (Nat.not_lt_zero a)), by simp [s0, c1]⟩) ?_
      rintro i t h ⟨hi, hf, h0, h2, h3, h10, h40, h41, h42, rfl⟩
      by_cases hlt : i < C.length
      rotate_left
      · have hiE : i = C.length := by omega
        rw [hiE] at hf h10
        by_cases cw : sF C.length = w
        · have : e = true := he.trans (prB_yes ⟨c0, c1, c2, fun i hi => hub i (by omega), fun i hi => hvb i (by omega), fun i j hi hj => hf i j hi hj, by rw [← hsF]; exact cw⟩)
          simp [h0, h2, h3, h10, h40, h41, h42, hiE, cw]
          exact finA_drop (by rw [this])
        · have := bad (fun q => cw (by rw [hsF]; exact q.sm))
          simp [h0, h2, h3, h10, h40, h41, h42, hiE, cw]
          exact finA_drop (by rw [this])
      have hltI : (i : Int) < (C.length : Int) := by omega
      have hwi : IntKind.i64.wrap ((i : Int) + 1) = (i : Int) + 1 := wrap_i64 (by omega) (by omega)
      have hau := intC_at (lF_get (l := u) (i := i) (by omega))
      have hav := intC_at (lF_get (l := v) (i := i) (by omega))
      have hlu : (intC u).length = C.length := by simp [c1]
      have hlv : (intC v).length = C.length := by simp [c2]
      obtain ⟨r, hr1, hr2, hr3⟩ := O.row hlt
      have hat := partsC_row hr1
      have bu := hub i (by omega)
      have bv := hvb i (by omega)
      have sbi := sb i (by omega)
      have ssi := ss i
      unfold big at bu bv
      have w2 : IntKind.i64.wrap (lF u i + lF v i) = lF u i + lF v i := wrap_i64 (by omega) (by omega)
      have w3 : IntKind.i64.wrap (sF i + (lF u i + lF v i)) = sF (i + 1) := by rw [ssi]; exact wrap_i64 (by omega) (by omega)
      simp [h0, h2, h3, h10, h40, h41, h42, hlt, hltI, hau, hlu]
      refine awp_loop_g (γ := Nat) (fun j t h => (j ≤ C.length) ∧ (∀ b, b < j → cF C i b ≤ lF u i + lF v b) ∧ t 0 = .sl C.length (partsC C) ∧ t 2 = .sl C.length (intC v) ∧ t 3 = .int .i64 w ∧ t 10 = .int .i64 (sF i) ∧ t 40 = .sl C.length (intC u) ∧ t 41 = .int .i64 C.length ∧ t 42 = .int .i64 i ∧ t 11 = .int .i64 i ∧ t 12 = .int .i64 (lF u i) ∧ t 47 = .sl C.length (intC v) ∧ t 48 = .int .i64 C.length ∧ t 49 = .int .i64 j ∧ h = AHeap.empty) (fun j => C.length - j) (0) (turnA_self ⟨Nat.zero_le _, (fun b hb => absurd hb (Nat.not_lt_zero b)), by simp [h0, h2, h3, h10, h40, h41, h42]⟩) ?_
      rintro j t h ⟨hj, hg, h0, h2, h3, h10, h40, h41, h42, h11, h12, h47, h48, h49, rfl⟩
      by_cases hjn : j < C.length
      · have hjnI : (j : Int) < (C.length : Int) := by omega
        have hwj : IntKind.i64.wrap ((j : Int) + 1) = (j : Int) + 1 := wrap_i64 (by omega) (by omega)
        have hvj := intC_at (lF_get (l := v) (i := j) (by omega))
        have bj := hvb j (by omega)
        unfold big at bj
        have w1 : IntKind.i64.wrap (lF u i + lF v j) = lF u i + lF v j := wrap_i64 (by omega) (by omega)
        have hgc := intC_at (hr3 j hjn)
        by_cases d1 : lF u i + lF v j < cF C i j
        · have := bad (fun q => by have := q.fe i j hlt hjn; omega)
          simp [h0, h2, h3, h10, h40, h41, h42, h11, h12, h47, h48, h49, hlt, hltI, hjn, hjnI, hvj, hlv, hat, hpl, hr2, hgc, w1, d1]
          exact finA_drop (by rw [this])
        · simp [h0, h2, h3, h10, h40, h41, h42, h11, h12, h47, h48, h49, hlt, hltI, hjn, hjnI, hvj, hlv, hat, hpl, hr2, hgc, w1, d1]
          refine turnA_self ⟨j + 1, by omega, by omega, fun b hb => ?_, by simp [h0, h2, h3, h10, h40, h41, h42, h11, h12, h47, h48, h49, hwj]⟩
          by_cases e : b = j
          · subst e; omega
          · exact hg b (by omega)
      · have hjE : j = C.length := by omega
        rw [hjE] at hg
        simp [h0, h2, h3, h10, h40, h41, h42, h11, h12, h47, h48, h49, hjE, hlt, hltI, hav, hlv, w2, w3]
        refine turnA_self ⟨i + 1, by omega, by omega, fun a b ha hb => ?_, by simp [h0, h2, h3, h10, h40, h41, h42, h11, h12, h47, h48, h49, hwi]⟩
        by_cases e : a = i
        · subst e; exact hg b hb
        · exact hf a b (by omega) hb
end Go.Proofs

end

section
/-
  Pair: whether numbers are prices, by the reference.
-/
namespace Go.Proofs
open Go Go.AH
set_option maxRecDepth 10000
set_option maxHeartbeats 4000000

theorem w_RArePrices (C : List (List Int)) (hl : C.length ≤ 4611686018427387904) (u v : List Int) (hu : u.length ≤ 4611686018427387904) (hv : v.length ≤ 4611686018427387904) (w : Int) : Pure Try.prog 19 [.sl C.length (partsC C), intL u, intL v, .int .i64 w] (.bool (prB C u v w)) := by
  refine pure_of (acalls_of Try.func19 rfl Try.call19 (by kernel_rfl) (by show _ ≤ (105 : Nat); simp) ?_)
  obtain ⟨e, he⟩ : ∃ e, e = prB C u v w := ⟨_, rfl⟩
  rw [← he]
  have bad : ¬ PrOk C u v w → e = false := fun q => he.trans (prB_no q)
  have hpl : (partsC C).length = C.length := by simp [partsC]
  have cc := w_ROffer C hl
  simp
  refine cc.use ?_
  by_cases c0 : chkO C = 0
  rotate_left
  · have := bad (fun q => c0 q.chk)
    simp [c0]
    exact finA_drop (by rw [this])
  have O := chkO_ok c0
  have hul : ∀ h : AHeap, lenA Try.prog h 23 (intL u) = some (.int .i64 (u.length : Int)) := fun h => lenA_intL64 u
  have hvl : ∀ h : AHeap, lenA Try.prog h 23 (intL v) = some (.int .i64 (v.length : Int)) := fun h => lenA_intL64 v
  have hCl : ∀ h : AHeap, lenA Try.prog h 22 (.sl C.length (partsC C)) = some (.int .i64 (C.length : Int)) := fun h => by simp
  by_cases c1 : u.length = C.length
  rotate_left
  · have := bad (fun q => c1 q.ul)
    have c1I : ¬ (u.length : Int) = (C.length : Int) := by omega
    simp [c0, hul, hCl, c1, c1I, -lenA]
    exact finA_drop (by rw [this])
  by_cases c2 : v.length = C.length
  rotate_left
  · have := bad (fun q => c2 q.vl)
    have c2I : ¬ (v.length : Int) = (C.length : Int) := by omega
    simp [c0, hul, hvl, hCl, c1, c2, c2I, -lenA]
    exact finA_drop (by rw [this])
  have n1 := O.n1
  have hus : intL u = .sl u.length (intC u) := intL_ne (i := 0) (by omega)
  have hvs : intL v = .sl v.length (intC v) := intL_ne (i := 0) (by omega)
  have hlu : (intC u).length = C.length := by simp [c1]
  have hlv : (intC v).length = C.length := by simp [c2]
  rw [hus, hvs, c1, c2]
  simp [c0]
  refine awp_loop_g (γ := Nat) (fun i t h => (i ≤ C.length) ∧ (∀ a, a < i → big (lF u a) ∧ big (lF v a)) ∧ t 0 = .sl C.length (partsC C) ∧ t 1 = .sl C.length (intC u) ∧ t 2 = .sl C.length (intC v) ∧ t 3 = .int .i64 w ∧ t 9 = .int .i64 i ∧ h = AHeap.empty) (fun i => C.length - i) (0) (turnA_self ⟨Nat.zero_le _, (fun a ha => absurd ha (Nat.not_lt_zero a)), by simp⟩) ?_
  rintro i t h ⟨hi, hb, h0, h1, h2, h3, h9, rfl⟩
  by_cases hlt : i < C.length
  · have hltI : (i : Int) < (C.length : Int) := by omega
    have hwi : IntKind.i64.wrap ((i : Int) + 1) = (i : Int) + 1 := wrap_i64 (by omega) (by omega)
    have hau := intC_at (lF_get (l := u) (i := i) (by omega))
    have hav := intC_at (lF_get (l := v) (i := i) (by omega))
    by_cases d1 : lF u i < -1000000000000000
    · have := bad (fun q => by have := (q.ub i hlt).1; omega)
      simp [h0, h1, h2, h3, h9, hlt, hltI, hau, hlu, d1]
      exact finA_drop (by rw [this])
    by_cases d2 : 1000000000000000 < lF u i
    · have := bad (fun q => by have := (q.ub i hlt).2; omega)
      simp [h0, h1, h2, h3, h9, hlt, hltI, hau, hlu, d1, d2]
      exact finA_drop (by rw [this])
    by_cases d3 : lF v i < -1000000000000000
    · have := bad (fun q => by have := (q.vb i hlt).1; omega)
      simp [h0, h1, h2, h3, h9, hlt, hltI, hau, hlu, hav, hlv, d1, d2, d3]
      exact finA_drop (by rw [this])
    by_cases d4 : 1000000000000000 < lF v i
    · have := bad (fun q => by have := (q.vb i hlt).2; omega)
      simp [h0, h1, h2, h3, h9, hlt, hltI, hau, hlu, hav, hlv, d1, d2, d3, d4]
      exact finA_drop (by rw [this])
    simp [h0, h1, h2, h3, h9, hlt, hltI, hau, hlu, hav, hlv, d1, d2, d3, d4]
    refine turnA_self ⟨i + 1, by omega, by omega, fun a ha => ?_, by simp [h0, h1, h2, h3, h9, hwi]⟩
    by_cases e : a = i
    · subst e; exact ⟨⟨by omega, by omega⟩, ⟨by omega, by omega⟩⟩
    · exact hb a (by omega)
  have hiE : i = C.length := by omega
  rw [hiE] at hb
  have hub := fun i hi => (hb i hi).1
  have hvb := fun i hi => (hb i hi).2
  obtain ⟨sF, hsF⟩ : ∃ sF : Nat → Int, sF = smF (fun i => lF u i + lF v i) := ⟨_, rfl⟩
  have s0 : sF 0 = 0 := by rw [hsF]; rfl
  have ss : ∀ k, sF (k + 1) = sF k + (lF u k + lF v k) := fun k => by rw [hsF]; rfl
  have sb : ∀ k, k ≤ C.length → -(2000000000000000 * (k : Int)) ≤ sF k ∧ sF k ≤ 2000000000000000 * k := fun k hk => by
    rw [hsF]; exact smF_le (n := C.length) hub hvb k hk
  simp [h0, h1, h2, h3, h9, hiE]
  refine awp_loop_g (γ := Nat) (fun i t h => (i ≤ C.length) ∧ (∀ a b, a < i → b < C.length → cF C a b ≤ lF u a + lF v b) ∧ t 0 = .sl C.length (partsC C) ∧ t 1 = .sl C.length (intC u) ∧ t 2 = .sl C.length (intC v) ∧ t 3 = .int .i64 w ∧ t 10 = .int .i64 (sF i) ∧ t 11 = .int .i64 i ∧ h = AHeap.empty) (fun i => C.length - i) (0) (turnA_self ⟨Nat.zero_le _, (fun a b ha => absurd ha (Nat.not_lt_zero a)), by simp [s0, h0, h1, h2, h3, h9]⟩) ?_
  rintro i t h ⟨hi2, hf, h0, h1, h2, h3, h10, h11, rfl⟩
  by_cases hlt2 : i < C.length
  rotate_left
  · have hiE : i = C.length := by omega
    rw [hiE] at hf h10
    by_cases cw : sF C.length = w
    · have : e = true := he.trans (prB_yes ⟨c0, c1, c2, hub, hvb, fun i j hi hj => hf i j hi hj, by rw [← hsF]; exact cw⟩)
      simp [h0, h1, h2, h3, h10, h11, hiE, cw]
      exact finA_drop (by rw [this])
    · have := bad (fun q => cw (by rw [hsF]; exact q.sm))
      simp [h0, h1, h2, h3, h10, h11, hiE, cw]
      exact finA_drop (by rw [this])
  have hltI : (i : Int) < (C.length : Int) := by omega
  have hwi : IntKind.i64.wrap ((i : Int) + 1) = (i : Int) + 1 := wrap_i64 (by omega) (by omega)
  have hau := intC_at (lF_get (l := u) (i := i) (by omega))
  have hav := intC_at (lF_get (l := v) (i := i) (by omega))
  obtain ⟨r, hr1, hr2, hr3⟩ := O.row hlt2
  have hat := partsC_row hr1
  have bu := hub i hlt2
  have bv := hvb i hlt2
  have sbi := sb i (by omega)
  have ssi := ss i
  unfold big at bu bv
  have w2 : IntKind.i64.wrap (sF i + lF u i) = sF i + lF u i := wrap_i64 (by omega) (by omega)
  have w3 : IntKind.i64.wrap (sF i + lF u i + lF v i) = sF (i + 1) := by rw [ssi, wrap_i64 (by omega) (by omega)]; omega
  simp [h0, h1, h2, h3, h10, h11, hlt2, hltI]
  refine awp_draw_text (by kernel_rfl) [] [] (by kernel_rfl) (by kernel_rfl) (by simp) ?_
  simp [h0, h1, h2, h3, h10, h11, hlt2, hltI, hau, hlu, hav, hlv, w2, w3]
  refine awp_loop_g (γ := Nat) (fun j t h => (j ≤ C.length) ∧ (∀ b, b < j → cF C i b ≤ lF u i + lF v b) ∧ t 0 = .sl C.length (partsC C) ∧ t 1 = .sl C.length (intC u) ∧ t 2 = .sl C.length (intC v) ∧ t 3 = .int .i64 w ∧ t 10 = .int .i64 (sF (i + 1)) ∧ t 11 = .int .i64 i ∧ t 12 = .int .i64 j ∧ h = AHeap.empty) (fun j => C.length - j) (0) (turnA_self ⟨Nat.zero_le _, (fun b hb => absurd hb (Nat.not_lt_zero b)), by simp [h0, h1, h2, h3, h10, h11]⟩) ?_
  rintro j t h ⟨hj, hg, h0, h1, h2, h3, h10, h11, h12, rfl⟩
  by_cases hjn : j < C.length
  · have hjnI : (j : Int) < (C.length : Int) := by omega
    have hwj : IntKind.i64.wrap ((j : Int) + 1) = (j : Int) + 1 := wrap_i64 (by omega) (by omega)
    have hvj := intC_at (lF_get (l := v) (i := j) (by omega))
    have bj := hvb j (by omega)
    unfold big at bj
    have w1 : IntKind.i64.wrap (lF u i + lF v j) = lF u i + lF v j := wrap_i64 (by omega) (by omega)
    have hgc := intC_at (hr3 j hjn)
    simp [h0, h1, h2, h3, h10, h11, h12, hjn, hjnI]
    refine awp_draw_text (by kernel_rfl) [] [] (by kernel_rfl) (by kernel_rfl) (by simp) ?_
    by_cases d1 : lF u i + lF v j < cF C i j
    · have := bad (fun q => by have := q.fe i j hlt2 hjn; omega)
      simp [h0, h1, h2, h3, h10, h11, h12, hlt2, hltI, hjn, hjnI, hau, hlu, hvj, hlv, hat, hpl, hr2, hgc, w1, d1]
      exact finA_drop (by rw [this])
    · simp [h0, h1, h2, h3, h10, h11, h12, hlt2, hltI, hjn, hjnI, hau, hlu, hvj, hlv, hat, hpl, hr2, hgc, w1, d1]
      refine turnA_self ⟨j + 1, by omega, by omega, fun b hb => ?_, by simp [h0, h1, h2, h3, h10, h11, h12, hwj]⟩
      by_cases e : b = j
      · subst e; omega
      · exact hg b (by omega)
  · have hjE : j = C.length := by omega
    rw [hjE] at hg
    simp [h0, h1, h2, h3, h10, h11, h12, hjE]
    refine turnA_self ⟨i + 1, by omega, by omega, fun a b ha hb => ?_, by simp [h0, h1, h2, h3, h10, h11, h12, hwi]⟩
    by_cases e : a = i
    · subst e; exact hg b hb
    · exact hf a b (by omega) hb
end Go.Proofs

end
