/-
  Flow: the members of a set; whether numbers are a set.
-/
import Derived.Test.YtpnikgfpcgaboaaFlB
set_option linter.unusedSimpArgs false
set_option linter.unusedVariables false
set_option linter.unusedSectionVars false
namespace Go.Proofs
open Go Go.AH
set_option maxRecDepth 10000
set_option maxHeartbeats 4000000

def natC (l : List Nat) : List AV := l.map fun x : Nat => AV.int .i64 (x : Int)
/-- A list of numbers, nil where it is empty. -/
def natL (l : List Nat) : AV := if l = [] then .nilsl else .sl l.length (natC l)
theorem natC_frozen {l : List Nat} : ∀ x ∈ natC l, x.frozen = true := by
  intro x hx; obtain ⟨a, _, rfl⟩ := List.mem_map.1 hx; rfl
@[simp] theorem natC_length {l : List Nat} : (natC l).length = l.length := by simp [natC]
@[simp] theorem natL_frozen {l : List Nat} : (natL l).frozen = true := by
  unfold natL
  split
  · rfl
  · simp only [AV.frozen]; exact frozens_iff.2 natC_frozen
@[simp] theorem natL_one {l : List Nat} : (natL l).one = true := by unfold natL; split <;> rfl
@[simp] theorem natL_fit {l : List Nat} : (natL l).fit = true := by unfold natL; split <;> rfl
@[simp] theorem natL_cells {l : List Nat} : (natL l).cells = [natL l] := by unfold natL; split <;> rfl
def memL (P s : Nat) : List Nat := (List.range P).filter fun i => s.testBit i
theorem memL_succ (P s : Nat) : memL (P + 1) s = memL P s ++ (if s.testBit P then [P] else []) := by
  unfold memL
  rw [List.range_succ, List.filter_append]
  simp only [List.filter_cons, List.filter_nil]
theorem memL_len (P s : Nat) : (memL P s).length ≤ P := by
  have := List.length_filter_le (fun i => s.testBit i) (List.range P)
  simpa [memL] using this
theorem l_Members (P s : Nat) (hP : P ≤ 24) (hs : s < 2 ^ 24) : Pure Try.prog 15 [.int .i64 (P : Int), .int .i64 (s : Int)] (natL (memL P s)) := by
  refine pure_of (acalls_of Try.func15 rfl Try.call15 (by kernel_rfl) (by show _ ≤ (23 : Nat); simp) ?_)
  simp
  refine awp_loop_g (γ := At) (fun q t h => (q.i ≤ P) ∧ (q.o = none ↔ memL q.i s = []) ∧ t 0 = .int .i64 P ∧ t 1 = .int .i64 s ∧ t 5 = ownV q.o (memL q.i s).length 1 ∧ t 6 = .int .i64 q.i ∧ h = AHeap.empty.updO q.o (natC (memL q.i s))) (fun q => P - q.i) (⟨0, none⟩) (turnA_self (by simp [memL])) ?_
  rintro q t hx ⟨hi, ho, h0, h1, h5, h6, ex⟩
  rw [ex]
  clear ex
  obtain ⟨i, o⟩ := q
  simp only at h0 h1 h5 h6 hi ho
  by_cases hlt : i < P
  · have hwi : IntKind.i64.wrap ((i : Int) + 1) = (i : Int) + 1 := wrap_i64 (by omega) (by omega)
    have hwu : IntKind.u64.wrap (i : Int) = (i : Int) := wrap_u64 (by omega) (by omega)
    have hml := memL_len i s
    have hsc := memL_succ i s
    have hbit : ((s : Int).fdiv (2 ^ min i IntKind.i64.bits)).tmod 2 = ((s / 2 ^ i % 2 : Nat) : Int) := by
      rw [show min i IntKind.i64.bits = i from Nat.min_eq_left (show i ≤ 64 by omega)]
      rw [Int.fdiv_eq_ediv_of_nonneg _ (by exact Int.le_of_lt (Int.pow_pos (by omega)))]
      rw [show ((2 : Int) ^ i) = ((2 ^ i : Nat) : Int) from by simp]
      rw [← Int.natCast_ediv, Int.tmod_eq_emod_of_nonneg (Int.natCast_nonneg _)]
      rfl
    have htb : s.testBit i = decide (s / 2 ^ i % 2 = 1) := Nat.testBit_eq_decide_div_mod_eq
    simp [h0, h1, h5, h6, hlt, hwu, hbit]
    by_cases hq : s / 2 ^ i % 2 = 1
    · have hqI : ((s / 2 ^ i % 2 : Nat) : Int) = 1 := by omega
      rw [htb, decide_eq_true hq, if_pos rfl] at hsc
      have hqI2 : (s : Int) / 2 ^ i % 2 = 1 := by simpa using hqI
      simp [h0, h1, h5, h6, hqI2, splice]
      intro b3 hb3
      simp at hb3
      simp [h0, h1, h5, h6, hb3]
      refine appendA_updO (by omega) (by omega) (fun e => by rw [ho.1 e]; rfl) (by simp) (by simp) (by cases o with | none => simp | some b => simp at hb3 ⊢; grind) fun b' hb' => ?_
      simp [hb3] at hb'
      simp [h0, h1, h5, h6, hb', hb3]
      have hnc : natC (memL i s) ++ [.int .i64 (i : Int)] = natC (memL (i + 1) s) := by rw [hsc]; simp [natC]
      have hln : (memL i s).length + 1 = (memL (i + 1) s).length := by rw [hsc]; simp
      rw [hnc, hln]
      refine turnA_to (AHeap.empty.updO (some b') (natC (memL (i + 1) s))) ?_ ⟨⟨i + 1, some b'⟩, by simp only; omega, by simp only; omega, by simp only; rw [hsc]; simp, by simp [h0, h1, h5, h6, hwi]⟩
      simp
      exact Drop.both (Drop.new (Drop.refl _) (by simp))
    · have hqI : ¬ ((s / 2 ^ i % 2 : Nat) : Int) = 1 := by omega
      have hqI2 : ¬ (s : Int) / 2 ^ i % 2 = 1 := by simpa using hqI
      rw [htb, decide_eq_false hq, if_neg (by simp), List.append_nil] at hsc
      simp [h0, h1, h5, h6, hqI2]
      exact turnA_self ⟨⟨i + 1, o⟩, by simp only; omega, by simp only; omega, by simp only; rw [hsc]; exact ho, by simp [h0, h1, h5, h6, hwi, hsc]⟩
  · obtain rfl : i = P := by omega
    simp [h0, h1, h5, h6]
    cases o with
    | none =>
      rw [natL, if_pos (ho.1 rfl)]
      exact finA_drop rfl
    | some b =>
      have hne : ¬ memL i s = [] := fun e => by cases ho.2 e
      refine finA_all 2 ?_
      simp only [ownV_some, updO_some]
      rw [frz_osl (by simp)]
      simp [natL, hne]
      rw [map_frozen natC_frozen]
      exact List.take_of_length_le (by simp)
end Go.Proofs
