/-
  Ring: walks of Check, configOf and what stands on them.
-/
import Derived.Test.YtobdaaoefbgilaaRgB
set_option linter.unusedSimpArgs false
set_option linter.unusedVariables false
set_option linter.unusedSectionVars false
namespace Go.Proofs
open Go Go.AH
set_option maxRecDepth 10000
set_option maxHeartbeats 4000000

/-- The first place whose number passes the test, or -1. -/
def idxI (l : List Int) (p : Int → Bool) : Int := if l.any p then ((l.findIdx p : Nat) : Int) else -1
def anyI (l : List Int) (p : Int → Bool) : Bool := l.any p
theorem w_indexFunc (l : List Int) (hl : l.length ≤ 4611686018427387904) (f : AV) (p : Int → Bool) (H : AHeap) (hp : ∀ x ∈ l, ACallV Try.prog f [.int .i64 x] H fun r h' => r = .bool (p x) ∧ h' = H) :
    ACalls Try.prog 72 [intsA l, f] H fun r h' => r = .int .i64 (idxI l p) ∧ h' = H := by
  refine acalls_of Try.func72 rfl Try.call72 (by kernel_rfl) (by show _ ≤ (19 : Nat); simp) ?_
  simp [intsA]
  refine awp_loop_g (γ := Nat) (fun k t h => (k ≤ l.length) ∧ (∀ i (hi : i < l.length), i < k → p l[i] = false) ∧ t 0 = .sl l.length (l.map (.int .i64)) ∧ t 1 = f ∧ t 7 = .int .i64 l.length ∧ t 8 = .int .i64 k ∧ h = H) (fun k => l.length - k) (0) (turnA_self (by simp)) ?_
  rintro k t h ⟨hk, hno, h0, h1, h7, h8, rfl⟩
  by_cases hlt : k < l.length
  · have hw : IntKind.i64.wrap ((k : Int) + 1) = (k : Int) + 1 := wrap_i64 (by omega) (by omega)
    simp [h0, h1, h7, h8, hlt]
    refine (hp _ (List.getElem_mem hlt)).use ?_
    simp
    refine condA_case ?_ ?_
    · intro hpk
      have h1' : l.any p = true := List.any_eq_true.2 ⟨l[k], List.getElem_mem hlt, hpk⟩
      have h2 : l.findIdx p = k := by
        rw [List.findIdx_eq hlt]
        exact ⟨hpk, fun i hi => hno i (by omega) hi⟩
      simp [h0, h1, h7, h8]
      refine finA_self ⟨?_, rfl⟩
      rw [idxI, if_pos h1', h2]
    · intro hpk
      simp [h0, h1, h7, h8]
      exact turnA_self ⟨k + 1, by omega, by omega, fun i hi hik => by
        by_cases e : i = k
        · subst e; exact hpk
        · exact hno i hi (by omega), by simp [h0, h1, h7, h8, hw]⟩
  · obtain rfl : k = l.length := by omega
    have h1' : l.any p = false := by
      rw [List.any_eq_false]
      intro x hx
      obtain ⟨i, hi, rfl⟩ := List.mem_iff_getElem.1 hx
      simp [hno i hi hi]
    simp [h0, h1, h7, h8]
    refine finA_self ⟨?_, rfl⟩
    rw [idxI, h1']; rfl
theorem w_containsFunc (l : List Int) (hl : l.length ≤ 4611686018427387904) (f : AV) (p : Int → Bool) (H : AHeap) (hp : ∀ x ∈ l, ACallV Try.prog f [.int .i64 x] H fun r h' => r = .bool (p x) ∧ h' = H) :
    ACalls Try.prog 49 [intsA l, f] H fun r h' => r = .bool (anyI l p) ∧ h' = H := by
  refine acalls_of Try.func49 rfl Try.call49 (by kernel_rfl) (by show _ ≤ (9 : Nat); simp) ?_
  simp
  refine (w_indexFunc l hl f p H hp).use ?_
  simp
  refine finA_self ⟨?_, rfl⟩
  by_cases h : l.any p = true
  · rw [idxI, anyI, if_pos h, h]; simp
  · have h' : l.any p = false := by simpa using h
    rw [idxI, anyI, if_neg h, h']; simp

/-- A list of whole numbers that may be nil. -/
def listI (l : List Int) : AV := if l = [] then .nilsl else intsA l
theorem listI_ne {l : List Int} (h : ¬ l = []) : listI l = intsA l := if_neg h

theorem w_Check (r : Rul) (hr : r.ok) : Pure Try.prog 45 [r.av] (.int .i64 0) := by
  refine pure_of (acalls_of Try.func45 rfl Try.call45 (by kernel_rfl) (by show _ ≤ (67 : Nat); simp) ?_)
  have q1 := hr.m2; have q2 := hr.m6; have q3 := hr.c2; have q4 := hr.c6; have q5 := hr.sz
  have cs := w_size r.m r.c q1 q2 q3 q4 q5
  have hp := pw_pos (c := r.c) (by omega) r.m
  have hp0 : ¬ pw r.c r.m = 0 := by omega
  have hnl := hr.nl
  simp only [Rul.av]
  simp
  intro b1 hb1
  simp
  refine cs.use ?_
  simp [hp0, rowsA, hnl]
  obtain ⟨cc, hcc⟩ : ∃ cc, cc = r.c * r.c := ⟨_, rfl⟩
  obtain ⟨ccc, hccc⟩ : ∃ ccc, ccc = cc * r.c := ⟨_, rfl⟩
  have b36 : cc ≤ 6 * 6 := by rw [hcc]; exact Nat.mul_le_mul q4 q4
  have b216 : ccc ≤ 36 * 6 := by rw [hccc]; exact Nat.mul_le_mul b36 q4
  have y1 : IntKind.i64.wrap ((r.c : Int) * (r.c : Int)) = (cc : Int) := by rw [← Int.natCast_mul, ← hcc]; exact wrap_i64 (by omega) (by omega)
  have y2 : IntKind.i64.wrap ((cc : Int) * (r.c : Int)) = (ccc : Int) := by rw [← Int.natCast_mul, ← hccc]; exact wrap_i64 (by omega) (by omega)
  have hc0 : ¬ r.c = 0 := by omega
  refine awp_loop_g (γ := Nat) (fun i t h => (i ≤ r.m) ∧ t 1 = .ptr b1 0 ∧ t 22 = .sl r.m (r.next.map intsA) ∧ t 23 = .int .i64 r.m ∧ t 24 = .int .i64 i ∧ h = AHeap.empty.upd b1 (.cells [.int .i64 r.m, .int .i64 r.c, .sl r.m (r.next.map intsA)])) (fun i => r.m - i) (0) (turnA_self (by simp)) ?_
  rintro i t h ⟨hi, h1, h22, h23, h24, rfl⟩
  by_cases hlt : i < r.m
  · have hwi : IntKind.i64.wrap ((i : Int) + 1) = (i : Int) + 1 := wrap_i64 (by omega) (by omega)
    have hin : i < r.next.length := by omega
    have hrl : r.next[i].length = ccc := by rw [hr.rl _ (List.getElem_mem hin), hccc, hcc]
    obtain ⟨row, hrow⟩ : ∃ row, row = r.next[i] := ⟨_, rfl⟩
    have hrm : row ∈ r.next := by rw [hrow]; exact List.getElem_mem hin
    rw [← hrow] at hrl
    have hrow' : r.next[i]'hin = row := hrow.symm
    have hne : ∀ k (hk : k < row.length), ¬ row[k] = ((k / r.c % r.c : Nat) : Int) := fun k hk => by
      have := hr.ne i k
      rw [show r.next.getD i [] = row from by simp [hin, hrow], show row.getD k (-1) = row[k] from by simp [hk]] at this
      exact this
    simp [h1, h22, h23, h24, hlt, hnl, intsA, hrow', y1, y2, hrl]
    refine awp_loop_g (γ := Nat) (fun k t h => (k ≤ ccc) ∧ t 1 = .ptr b1 0 ∧ t 22 = .sl r.m (r.next.map intsA) ∧ t 23 = .int .i64 r.m ∧ t 24 = .int .i64 i ∧ t 39 = .sl ccc (row.map (.int .i64)) ∧ t 40 = .int .i64 ccc ∧ t 41 = .int .i64 k ∧ h = AHeap.empty.upd b1 (.cells [.int .i64 r.m, .int .i64 r.c, .sl r.m (r.next.map intsA)])) (fun k => ccc - k) (0) (turnA_self (by simp [h1, h22, h23, h24])) ?_
    rintro k t h ⟨hk, h1, h22, h23, h24, h39, h40, h41, rfl⟩
    by_cases hltk : k < ccc
    · have hwk : IntKind.i64.wrap ((k : Int) + 1) = (k : Int) + 1 := wrap_i64 (by omega) (by omega)
      have hkr : k < row.length := by omega
      have x1 := hr.lo _ hrm _ (List.getElem_mem hkr)
      have x2 := hr.hi _ hrm _ (List.getElem_mem hkr)
      have x3 := hne k hkr
      obtain ⟨x, hx⟩ : ∃ x, x = row[k] := ⟨_, rfl⟩
      have hx' : row[k]'hkr = x := hx.symm
      rw [← hx] at x1 x2 x3
      have n1 : ¬ x < -1 := by omega
      have n2 : ¬ (r.c : Int) ≤ x := by omega
      have hdl : k / r.c ≤ k := Nat.div_le_self _ _
      obtain ⟨d, hd⟩ : ∃ d, d = k / r.c := ⟨_, rfl⟩
      rw [← hd] at hdl x3
      have v1 : (k : Int).tdiv (r.c : Int) = (d : Int) := by rw [Int.tdiv_eq_ediv_of_nonneg (by omega), hd]; rfl
      have v2 : IntKind.i64.wrap (d : Int) = d := wrap_i64 (by omega) (by omega)
      obtain ⟨e, he⟩ : ∃ e, e = d % r.c := ⟨_, rfl⟩
      rw [← he] at x3
      have v3 : (d : Int).tmod (r.c : Int) = (e : Int) := by rw [Int.tmod_eq_emod_of_nonneg (by omega), he]; rfl
      simp [h1, h22, h23, h24, h39, h40, h41, hltk, hrl, hx']
      refine awp_draw_text (by kernel_rfl) [] [] (by kernel_rfl) (by kernel_rfl) (by simp) ?_
      simp [h1, h22, h23, h24, h39, h40, h41, n1, n2, hc0, v1, v2, v3, x3]
      exact turnA_self ⟨k + 1, by omega, by omega, by simp [h1, h22, h23, h24, h39, h40, h41, hwk]⟩
    · obtain rfl : k = ccc := by omega
      simp [h1, h22, h23, h24, h39, h40, h41]
      exact turnA_self ⟨i + 1, by omega, by omega, by simp [h1, h22, h23, h24, h39, h40, h41, hwi]⟩
  · obtain rfl : i = r.m := by omega
    simp [h1, h22, h23, h24]
    exact finA_drop rfl
end Go.Proofs
