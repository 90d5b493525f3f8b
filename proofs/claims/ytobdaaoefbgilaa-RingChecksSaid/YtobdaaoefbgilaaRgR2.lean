/-
  Ring: whether anything is a protocol: the reference.
-/
import Derived.Test.YtobdaaoefbgilaaRgR1
set_option linter.unusedSimpArgs false
set_option linter.unusedVariables false
set_option linter.unusedSectionVars false
namespace Go.Proofs
open Go Go.AH
set_option maxRecDepth 10000
set_option maxHeartbeats 4000000

theorem r_CheckG (m c : Int) (rows : List (List Int)) (hrl : rows.length ≤ 1000000) (hrr : ∀ row ∈ rows, row.length ≤ 1000000) : Pure Try.prog 44 [rulV m c rows] (.int .i64 (chkE m c rows)) := by
  refine pure_of (acalls_of Try.func44 rfl Try.call44 (by kernel_rfl) (by show _ ≤ (74 : Nat); simp) ?_)
  have cs := r_SizeI m c
  unfold rulV
  simp
  intro b1 hb1
  simp
  refine cs.use ?_
  by_cases h0 : sizeN m c = 0
  · have he : chkE m c rows = 80 := by unfold chkE okG; simp [h0]
    simp [h0]
    exact finA_drop (by rw [he])
  · obtain ⟨m, c, rfl, rfl, hm2, hm6, hc2, hc6, hz⟩ := sizeN_ne h0
    by_cases hml : rows.length = m
    · have hmlI : (rows.length : Int) = (m : Int) := by omega
      have hne : ¬ rows = [] := fun e => by rw [e] at hml; simp at hml; omega
      have hrv : rowsL rows = .sl m (rows.map listI) := by unfold rowsL; rw [if_neg hne, hml]
      have hall : chkE (m : Int) (c : Int) rows = if rows.all (rowB c) = true then 0 else 80 := by
        unfold chkE okG
        simp only [Int.toNat_natCast, hmlI, decide_true, Bool.and_true]
        rw [show decide (sizeN (m : Int) (c : Int) ≠ 0) = true from by simpa using h0, Bool.true_and]
      have hc : 0 < c := by omega
      have hcc := ccc_le hc6
      have hw2 : IntKind.i64.wrap ((c : Int) * (c : Int) * (c : Int)) = ((c * c * c : Nat) : Int) := by rw [← Int.natCast_mul, ← Int.natCast_mul]; exact wrap_i64 (by omega) (by omega)
      have hw1 : IntKind.i64.wrap ((c : Int) * (c : Int)) = ((c * c : Nat) : Int) := by
        rw [← Int.natCast_mul]
        have : c * c ≤ c * c * c := Nat.le_mul_of_pos_right _ hc
        exact wrap_i64 (by omega) (by omega)
      obtain ⟨N, hN⟩ : ∃ N, N = c * c * c := ⟨_, rfl⟩
      rw [← hN] at hcc hw2
      have hc0' : ¬ c = 0 := by omega
      rw [hrv]
      simp [h0]
      refine awp_loop_g (γ := Nat) (fun i t h => (i ≤ m) ∧ (allRows c rows i = true) ∧ t 1 = .ptr b1 0 ∧ t 3 = .int .i64 c ∧ t 4 = .int .i64 i ∧ h = AHeap.empty.upd b1 (.cells [.int .i64 m, .int .i64 c, .sl m (rows.map listI)])) (fun i => m - i) (0) (turnA_self (by simp [allRows_zero])) ?_
      rintro i t h ⟨hi, hok, h1, h3, h4, rfl⟩
      by_cases hlt : i < m
      · have hwi : IntKind.i64.wrap ((i : Int) + 1) = (i : Int) + 1 := wrap_i64 (by omega) (by omega)
        have hin : i < rows.length := by omega
        obtain ⟨row, hrow⟩ : ∃ row, row = rows[i] := ⟨_, rfl⟩
        have hrow' : rows[i]'hin = row := hrow.symm
        have hrow2 : row.length ≤ 1000000 := by rw [hrow]; exact hrr _ (List.getElem_mem hin)
        have hts : allRows c rows (i + 1) = rowB c row := by unfold allRows at hok ⊢; rw [List.take_succ_eq_append_getElem hin, List.all_append, hok, hrow']; simp
        have hbad : rowB c row = false → chkE (m : Int) (c : Int) rows = 80 := fun h => okG_cut hin (by rw [hrow']; exact h)
        by_cases hl : row.length = N
        · have hlI : (row.length : Int) = (N : Int) := by omega
          have hrb : rowB c row = rowOn c row N := by unfold rowB; rw [hl, hN]; simp
          have hNp : 0 < N := by rw [hN]; exact Nat.mul_pos (Nat.mul_pos hc hc) hc
          have hrne : ¬ row = [] := fun e => by rw [e] at hl; simp at hl; omega
          have hli : listI row = .sl N (row.map (.int .i64)) := by rw [listI_ne hrne, intsA, hl]
          simp [h1, h3, h4, hlt, hml, hrow', hw1, hw2, hli, hlI]
          refine awp_loop_g (γ := Nat) (fun k t h => (k ≤ N) ∧ (rowOn c row k = true) ∧ t 1 = .ptr b1 0 ∧ t 3 = .int .i64 c ∧ t 4 = .int .i64 i ∧ t 5 = .int .i64 k ∧ h = AHeap.empty.upd b1 (.cells [.int .i64 m, .int .i64 c, .sl m (rows.map listI)])) (fun k => N - k) (0) (turnA_self (by simp [h1, h3, h4, rowOn])) ?_
          rintro k t h ⟨hk, hro, h1, h3, h4, h5, rfl⟩
          by_cases hltk : k < N
          · have hkI : (k : Int) < (N : Int) := by omega
            have hwk : IntKind.i64.wrap ((k : Int) + 1) = (k : Int) + 1 := wrap_i64 (by omega) (by omega)
            have hkr : k < row.length := by omega
            have hrs := rowOn_succ c row k
            obtain ⟨x, hx⟩ : ∃ x, x = row[k] := ⟨_, rfl⟩
            have hx' : row[k]'hkr = x := hx.symm
            have hgx : row.getD k 0 = x := by simp [hkr, hx]
            rw [hro, hgx, Bool.true_and] at hrs
            have hcut : badB c k x = true → chkE (m : Int) (c : Int) rows = 80 := fun h => hbad (rowOn_cut hkr (by rw [hgx]; exact h))
            have d1 := quo1 (k := k) (c := c) (by omega)
            have d3 : Int.tmod ((k / c : Nat) : Int) (c : Int) = ((k / c % c : Nat) : Int) := rfl
            simp [h1, h3, h4, h5, hw1, hw2, hltk, hkI, hl, hlt, hml, hrow', hli, hx']
            by_cases n1 : x < -1
            · have hb : badB c k x = true := by simp [badB, n1]
              simp [h1, h3, h4, h5, n1, hc0']
              exact finA_drop (by rw [hcut hb])
            · by_cases n2 : (c : Int) ≤ x
              · have hb : badB c k x = true := by simp [badB, n2]
                simp [h1, h3, h4, h5, n1, n2, hc0']
                exact finA_drop (by rw [hcut hb])
              · simp [h1, h3, h4, h5, n1, n2, hc0']
                rw [d1, d3]
                obtain ⟨z, hz⟩ : ∃ z : Int, z = ((k / c % c : Nat) : Int) := ⟨_, rfl⟩
                rw [← hz]
                refine condA_dec (fun e => ?_) fun e => ?_
                · have hb : badB c k x = true := by unfold badB; rw [← hz]; simp [e]
                  simp [h1, h3, h4, h5]
                  exact finA_drop (by rw [hcut hb])
                · have hb : badB c k x = false := by unfold badB; rw [← hz]; simp [e, n1, n2]
                  simp [h1, h3, h4, h5]
                  exact turnA_self ⟨k + 1, by omega, by omega, by rw [hrs, hb]; rfl, by simp [h1, h3, h4, h5, hwk]⟩
          · obtain rfl : k = N := by omega
            simp [h1, h3, h4, h5, hw1, hw2]
            exact turnA_self ⟨i + 1, by omega, by omega, by rw [hts, hrb]; exact hro, by simp [h1, h3, h4, h5, hwi]⟩
        · have hlI : ¬ (row.length : Int) = (N : Int) := by omega
          have hb : rowB c row = false := by unfold rowB; rw [← hN]; simp [hl]
          simp [h1, h3, h4, hlt, hml, hrow', hw1, hw2, -lenA, lenA_list, hlI]
          exact finA_drop (by rw [hbad hb])
      · obtain rfl : i = m := by omega
        unfold allRows at hok
        rw [List.take_of_length_le (by omega)] at hok
        simp [h1, h3, h4]
        exact finA_drop (by rw [hall, if_pos hok])
    · have hmlI : ¬ (rows.length : Int) = (m : Int) := by omega
      have he : chkE m c rows = 80 := by unfold chkE okG; simp [hmlI]
      simp [h0, -lenA, lenA_rowsL, hmlI, hml]
      exact finA_drop (by rw [he])
end Go.Proofs
