/-
  Flow, the reference: whether a list has a number.
-/
import Derived.Test.YtpnikgfpcgaboaaFlL2
set_option linter.unusedSimpArgs false
set_option linter.unusedVariables false
set_option linter.unusedSectionVars false
namespace Go.Proofs
open Go Go.AH
set_option maxRecDepth 10000
set_option maxHeartbeats 4000000

theorem l_Has (l : List Int) (hl : l.length ≤ 1000000) (x : Int) : Pure Try.prog 26 [intL l, .int .i64 x] (.bool (l.contains x)) := by
  refine pure_of (acalls_of Try.func26 rfl Try.call26 (by kernel_rfl) (by show _ ≤ (18 : Nat); simp) ?_)
  obtain ⟨r, hr⟩ : ∃ r, r = l.contains x := ⟨_, rfl⟩
  rw [← hr]
  simp
  refine awp_loop_g (γ := Nat) (fun i t h => (i ≤ l.length) ∧ (x ∉ l.take i) ∧ t 0 = intL l ∧ t 1 = .int .i64 x ∧ t 5 = .int .i64 i ∧ h = AHeap.empty) (fun i => l.length - i) (0) (turnA_self (by simp)) ?_
  rintro i t h ⟨hi, hc, h0, h1, h5, rfl⟩
  by_cases hlt : i < l.length
  · have hltI : (i : Int) < (l.length : Int) := by omega
    have hwi : IntKind.i64.wrap ((i : Int) + 1) = (i : Int) + 1 := wrap_i64 (by omega) (by omega)
    have hV : intL l = .sl l.length (intC l) := by unfold intL; rw [if_neg (fun e => by rw [e] at hlt; simp at hlt)]
    obtain ⟨y, hy⟩ : ∃ y, y = l[i] := ⟨_, rfl⟩
    have hy' : l[i]? = some y := by rw [hy]; exact List.getElem?_eq_getElem hlt
    simp [h0, h1, h5, hlt, hltI, -lenA, lenA_intL]
    simp [h0, h1, h5, hV, hlt, hltI, intC_at hy']
    by_cases e : y = x
    · simp [e]
      refine finA_drop ?_
      rw [hr, List.contains_iff_mem.2 (e ▸ List.mem_of_getElem? hy')]
    · simp [h0, h1, h5, e]
      refine turnA_self ⟨i + 1, by omega, by omega, ?_, by simp [h0, h1, h5, hwi, hV]⟩
      rw [List.take_succ_eq_append_getElem hlt]
      intro h
      rcases List.mem_append.1 h with h | h
      · exact hc h
      · simp only [List.mem_singleton] at h
        exact e (by rw [hy, h])
  · obtain rfl : i = l.length := by omega
    simp [h0, h1, h5, -lenA, lenA_intL]
    refine finA_drop ?_
    rw [List.take_length] at hc
    rw [hr]
    congr 1
    cases e : l.contains x with
    | false => rfl
    | true => exact absurd (List.contains_iff_mem.1 e) hc

/-! ### Sums over lists -/
theorem sm_shift (g : Nat → Int) : ∀ n, sm g (n + 1) = g 0 + sm (fun j => g (j + 1)) n
  | 0 => by simp [sm]
  | n + 1 => by
    show sm g (n + 1) + g (n + 1) = _
    rw [sm_shift g n]
    show g 0 + sm (fun j => g (j + 1)) n + g (n + 1) = g 0 + (sm (fun j => g (j + 1)) n + g (n + 1))
    omega
theorem sm_list (F : RArc → Int) : ∀ l : List RArc, sm (fun j => F (arcAt l j)) l.length = (l.map F).sum
  | [] => rfl
  | x :: l => by
    rw [List.length_cons, sm_shift, List.map_cons, List.sum_cons, ← sm_list F l]
    rfl
theorem capN_capB {P : Nat} {l : List RArc} (O : ArcsOk P l fun _ => 0) (m : Nat) : capN ((memL P m).map fun x : Nat => (x : Int)).contains l = capB l (fun p => m.testBit p) l.length := by
  unfold capN capB
  rw [← sm_list]
  refine sm_congr fun j hj => ?_
  have := arcOk_iff.1 (O.ok (arcAt l j) (by unfold arcAt; rw [List.getD_eq_getElem?_getD, List.getElem?_eq_getElem hj]; simp))
  simp only [mem_contains]
  simp [this]
theorem cap_mem {P : Nat} {l : List RArc} (O : ArcsOk P l fun _ => 0) (m : Nat) : capF l ((memL P m).map fun x : Nat => (x : Int)) = capB l (fun p => m.testBit p) l.length := by
  have h := cap_eq ((memL P m).map fun x : Nat => (x : Int)) l 0 (fun x hx => by have := arcOk_iff.1 (O.ok x hx); omega) (by omega) (by have := O.len; omega)
  unfold capF
  rw [h.1, capN_capB O]; omega
theorem capacity_mem {P : Nat} {l : List RArc} (O : ArcsOk P l fun _ => 0) (m : Nat) : Pure Try.prog 13 [netV P l, natL (memL P m)] (.tup [.int .i64 (capB l (fun p => m.testBit p) l.length), .int .i64 0]) := by
  have c := w_Capacity P l (by have := O.len; omega) ((memL P m).map fun x : Nat => (x : Int)) (by have := memL_len P m; have := O.P24; simp; omega)
  unfold capacityF at c
  rw [chk_of_ok O, okFrom_mem, if_neg (by simp), if_pos rfl, ← natL_int, cap_mem O] at c
  exact c

/-! ### A set without the target, with the source -/
theorem setNum {P s t p : Nat} (hs : s < P) (ht : t < P) (hP : P ≤ 24) (hp : p < 2 ^ P) (hst : s ≠ t) :
    ∃ z : Nat, (p ||| 2 ^ s) &&& (2 ^ IntKind.i64.bits - 1 - 2 ^ t) = z ∧ z < 2 ^ P ∧ z.testBit s = true ∧ z.testBit t = false := by
  have e : 2 ^ IntKind.i64.bits - 1 - 2 ^ t = 2 ^ IntKind.i64.bits - (2 ^ t + 1) := by omega
  have ht64 : 2 ^ t < 2 ^ IntKind.i64.bits := Nat.pow_lt_pow_right (by omega) (by show t < 64; omega)
  have hs64 : s < IntKind.i64.bits := by show s < 64; omega
  refine ⟨_, rfl, ?_, ?_, ?_⟩
  · refine Nat.lt_pow_two_of_testBit _ fun i hi => ?_
    rw [Nat.testBit_and, Nat.testBit_or, Nat.testBit_two_pow]
    have : p.testBit i = false := Nat.testBit_lt_two_pow (Nat.lt_of_lt_of_le hp (Nat.pow_le_pow_right (by omega) hi))
    rw [this, decide_eq_false (by omega)]; rfl
  · rw [Nat.testBit_and, Nat.testBit_or, Nat.testBit_two_pow, e, Nat.testBit_two_pow_sub_succ ht64, Nat.testBit_two_pow]
    simp [hs64]
    exact fun h => hst h.symm
  · rw [Nat.testBit_and, e, Nat.testBit_two_pow_sub_succ ht64, Nat.testBit_two_pow]
    simp
end Go.Proofs
