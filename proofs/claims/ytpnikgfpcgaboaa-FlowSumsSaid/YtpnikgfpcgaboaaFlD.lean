/-
  Flow: whether numbers are a set; whether anything is a network.
-/
import Derived.Test.YtpnikgfpcgaboaaFlC
set_option linter.unusedSimpArgs false
set_option linter.unusedVariables false
set_option linter.unusedSectionVars false
namespace Go.Proofs
open Go Go.AH
set_option maxRecDepth 10000
set_option maxHeartbeats 4000000

def intC (l : List Int) : List AV := l.map (.int .i64)
/-- A list of whole numbers, nil where it is empty. -/
def intL (l : List Int) : AV := if l = [] then .nilsl else .sl l.length (intC l)
theorem natL_int (l : List Nat) : natL l = intL (l.map fun x : Nat => (x : Int)) := by
  unfold natL intL natC intC
  simp [Function.comp_def]
theorem intC_frozen {l : List Int} : ∀ x ∈ intC l, x.frozen = true := by
  intro x hx; obtain ⟨a, _, rfl⟩ := List.mem_map.1 hx; rfl
@[simp] theorem intC_length {l : List Int} : (intC l).length = l.length := by simp [intC]
@[simp] theorem intL_frozen {l : List Int} : (intL l).frozen = true := by
  unfold intL
  split
  · rfl
  · simp only [AV.frozen]; exact frozens_iff.2 intC_frozen
@[simp] theorem intL_one {l : List Int} : (intL l).one = true := by unfold intL; split <;> rfl
@[simp] theorem intL_fit {l : List Int} : (intL l).fit = true := by unfold intL; split <;> rfl
@[simp] theorem intL_cells {l : List Int} : (intL l).cells = [intL l] := by unfold intL; split <;> rfl
theorem lenA_intL {h : AHeap} (l : List Int) : lenA Try.prog h 34 (intL l) = some (.int .i64 (l.length : Int)) := by
  unfold intL
  split
  · next e => subst e; simp
  · simp
def okFrom (P : Int) : Int → List Int → Bool
  | _, [] => true
  | last, x :: r => decide (last < x) && decide (x < P) && okFrom P x r
theorem w_isSet (P : Int) (l : List Int) (hl : l.length ≤ 1000000) : Pure Try.prog 51 [.int .i64 P, intL l] (.bool (okFrom P (-1) l)) := by
  refine pure_of (acalls_of Try.func51 rfl Try.call51 (by kernel_rfl) (by show _ ≤ (24 : Nat); simp) ?_)
  simp [-lenA, lenA_intL]
  refine awp_loop_g (γ := Nat × Int) (fun q t h => (q.1 ≤ l.length) ∧ (okFrom P (-1) l = okFrom P q.2 (l.drop q.1)) ∧ t 0 = .int .i64 P ∧ t 5 = .int .i64 q.2 ∧ t 8 = intL l ∧ t 9 = .int .i64 l.length ∧ t 10 = .int .i64 q.1 ∧ h = AHeap.empty) (fun q => l.length - q.1) ((0, -1)) (turnA_self (by simp)) ?_
  rintro q t h ⟨hi, ho, h0, h5, h8, h9, h10, rfl⟩
  obtain ⟨i, last⟩ := q
  simp only at h0 h5 h8 h9 h10 hi ho
  by_cases hlt : i < l.length
  · have hwi : IntKind.i64.wrap ((i : Int) + 1) = (i : Int) + 1 := wrap_i64 (by omega) (by omega)
    have hne : ¬ l = [] := fun e => by rw [e] at hlt; simp at hlt
    have hV : intL l = .sl l.length (intC l) := by unfold intL; rw [if_neg hne]
    have hdr : l.drop i = l[i] :: l.drop (i + 1) := List.drop_eq_getElem_cons hlt
    rw [hdr] at ho
    obtain ⟨x, hx⟩ : ∃ x, x = l[i] := ⟨_, rfl⟩
    have hx' : l[i]'hlt = x := hx.symm
    rw [hx'] at ho
    have hci : (intC l)[i]'(by simpa using hlt) = .int .i64 x := by simp [intC, hx']
    by_cases c1 : x ≤ last
    · have hf : okFrom P (-1) l = false := by rw [ho]; simp [okFrom]; omega
      simp [h0, h5, h8, h9, h10, hlt, hV, hx', intC, c1]
      exact finA_drop (by rw [hf])
    · by_cases c2 : P ≤ x
      · have hf : okFrom P (-1) l = false := by rw [ho]; simp [okFrom]; omega
        simp [h0, h5, h8, h9, h10, hlt, hV, hx', intC, c1, c2]
        exact finA_drop (by rw [hf])
      · have ho2 : okFrom P (-1) l = okFrom P x (l.drop (i + 1)) := by
          rw [ho]
          have c1' : last < x := by omega
          have c2' : x < P := by omega
          simp [okFrom, c1', c2']
        simp [h0, h5, h8, h9, h10, hlt, hV, hx', intC, c1, c2]
        exact turnA_self ⟨i + 1, by omega, by omega, x, ho2, by simp [h0, h5, h8, h9, h10, hwi, hV, intC]⟩
  · obtain rfl : i = l.length := by omega
    rw [List.drop_length] at ho
    have ht : okFrom P (-1) l = true := by rw [ho]; rfl
    simp [h0, h5, h8, h9, h10]
    exact finA_drop (by rw [ht])
end Go.Proofs
