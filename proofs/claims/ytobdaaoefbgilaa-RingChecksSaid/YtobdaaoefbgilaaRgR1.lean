/-
  Ring: whether anything is a protocol.
-/
import Derived.Test.YtobdaaoefbgilaaRgO3
set_option linter.unusedSimpArgs false
set_option linter.unusedVariables false
set_option linter.unusedSectionVars false
namespace Go.Proofs
open Go Go.AH
set_option maxRecDepth 10000
set_option maxHeartbeats 4000000

/-- Rows as they are: what is empty is nil. -/
def rowsL (l : List (List Int)) : AV := if l = [] then .nilsl else .sl l.length (l.map listI)
@[simp] theorem listI_frozen {l : List Int} : (listI l).frozen = true := by
  unfold listI
  split
  · rfl
  · simp [intsA, AV.frozen, frozens_iff]
@[simp] theorem rowsL_frozen {l : List (List Int)} : (rowsL l).frozen = true := by
  unfold rowsL
  split
  · rfl
  · simp only [AV.frozen]; rw [frozens_iff]; intro a ha; obtain ⟨r, _, rfl⟩ := List.mem_map.1 ha; simp
@[simp] theorem rowsL_one {l : List (List Int)} : (rowsL l).one = true := by unfold rowsL; split <;> rfl
@[simp] theorem rowsL_fit {l : List (List Int)} : (rowsL l).fit = true := by unfold rowsL; split <;> rfl
@[simp] theorem rowsL_cells {l : List (List Int)} : (rowsL l).cells = [rowsL l] := by unfold rowsL; split <;> rfl
@[simp] theorem frz_rowsL {l : List (List Int)} {k : Nat} {h h' : AHeap} : frzF k h h' (rowsL l) = rowsL l := frz_frozen k _ rowsL_frozen
@[simp] theorem frz_listI {l : List Int} {k : Nat} {h h' : AHeap} : frzF k h h' (listI l) = listI l := frz_frozen k _ listI_frozen
theorem lenA_rowsL {h : AHeap} (l : List (List Int)) : lenA Try.prog h 22 (rowsL l) = some (.int .i64 (l.length : Int)) := by
  unfold rowsL
  split
  · next e => subst e; simp
  · simp
def rulV (m c : Int) (rows : List (List Int)) : AV := .agg [.int .i64 m, .int .i64 c, rowsL rows]

def badB (c k : Nat) (x : Int) : Bool := decide (x < -1) || decide ((c : Int) ≤ x) || decide (x = ((k / c % c : Nat) : Int))
def rowOn (c : Nat) (row : List Int) (n : Nat) : Bool := (List.range n).all fun k => !badB c k (row.getD k 0)
def rowB (c : Nat) (row : List Int) : Bool := decide (row.length = c * c * c) && rowOn c row row.length
def okG (m c : Int) (rows : List (List Int)) : Bool := decide (sizeN m c ≠ 0) && decide ((rows.length : Int) = m) && rows.all (rowB c.toNat)
def chkE (m c : Int) (rows : List (List Int)) : Int := if okG m c rows = true then 0 else 80
theorem rowOn_succ (c : Nat) (row : List Int) (n : Nat) : rowOn c row (n + 1) = (rowOn c row n && !badB c n (row.getD n 0)) := by
  unfold rowOn
  rw [List.range_succ, List.all_append]; simp
theorem rowOn_cut {c n : Nat} {row : List Int} (hn : n < row.length) (h : badB c n (row.getD n 0) = true) : rowB c row = false := by
  unfold rowB rowOn
  rw [show ((List.range row.length).all fun k => !badB c k (row.getD k 0)) = false from by rw [List.all_eq_false]; exact ⟨n, List.mem_range.2 hn, by rw [h]; simp⟩]
  simp
theorem okG_cut {m c : Int} {rows : List (List Int)} {i : Nat} (hi : i < rows.length) (h : rowB c.toNat rows[i] = false) : chkE m c rows = 80 := by
  unfold chkE
  rw [if_neg]
  unfold okG
  rw [show rows.all (rowB c.toNat) = false from by rw [List.all_eq_false]; exact ⟨_, List.getElem_mem hi, by rw [h]; simp⟩]
  simp
def allRows (c : Nat) (rows : List (List Int)) (i : Nat) : Bool := (rows.take i).all (rowB c)
theorem allRows_zero (c : Nat) (rows : List (List Int)) : allRows c rows 0 = true := rfl
theorem w_CheckG (m c : Int) (rows : List (List Int)) (hrl : rows.length ≤ 1000000) (hrr : ∀ row ∈ rows, row.length ≤ 1000000) : Pure Try.prog 45 [rulV m c rows] (.int .i64 (chkE m c rows)) := by
  refine pure_of (acalls_of Try.func45 rfl Try.call45 (by kernel_rfl) (by show _ ≤ (67 : Nat); simp) ?_)
  have cs := w_sizeI m c
  unfold rulV
  simp
  intro b1 hb1
  simp
  refine cs.use ?_
  by_cases h0 : sizeN m c = 0
  · have he : chkE m c rows = 80 := by unfold chkE okG; simp [h0]
    simp [h0]
    exact finA_drop (by rw [he])
  · obtain ⟨m, c, rfl, rfl, hm2, hm6, hc2, hc6, hz⟩ := sizeN_ne h0
    by_cases hml : rows.length = m
    · have hmlI : (rows.length : Int) = (m : Int) := by omega
      have hne : ¬ rows = [] := fun e => by rw [e] at hml; simp at hml; omega
      have hrv : rowsL rows = .sl m (rows.map listI) := by unfold rowsL; rw [if_neg hne, hml]
      have hall : chkE (m : Int) (c : Int) rows = if rows.all (rowB c) = true then 0 else 80 := by
        unfold chkE okG
        simp only [Int.toNat_natCast, hmlI, decide_true, Bool.and_true]
        rw [show decide (sizeN (m : Int) (c : Int) ≠ 0) = true from by simpa using h0, Bool.true_and]
      have hc : 0 < c := by omega
      have hcc := ccc_le hc6
      have hw2 : IntKind.i64.wrap ((c : Int) * (c : Int) * (c : Int)) = ((c * c * c : Nat) : Int) := by rw [← Int.natCast_mul, ← Int.natCast_mul]; exact wrap_i64 (by omega) (by omega)
      have hw1 : IntKind.i64.wrap ((c : Int) * (c : Int)) = ((c * c : Nat) : Int) := by
        rw [← Int.natCast_mul]
        have : c * c ≤ c * c * c := Nat.le_mul_of_pos_right _ hc
        exact wrap_i64 (by omega) (by omega)
      obtain ⟨N, hN⟩ : ∃ N, N = c * c * c := ⟨_, rfl⟩
      rw [← hN] at hcc hw2
      have hc0' : ¬ c = 0 := by omega
      rw [hrv]
      simp [h0]
      refine awp_loop_g (γ := Nat) (fun i t h => (i ≤ m) ∧ (allRows c rows i = true) ∧ t 1 = .ptr b1 0 ∧ t 22 = .sl m (rows.map listI) ∧ t 23 = .int .i64 m ∧ t 24 = .int .i64 i ∧ h = AHeap.empty.upd b1 (.cells [.int .i64 m, .int .i64 c, .sl m (rows.map listI)])) (fun i => m - i) (0) (turnA_self (by simp [allRows_zero])) ?_
      rintro i t h ⟨hi, hok, h1, h22, h23, h24, rfl⟩
      by_cases hlt : i < m
      · have hwi : IntKind.i64.wrap ((i : Int) + 1) = (i : Int) + 1 := wrap_i64 (by omega) (by omega)
        have hin : i < rows.length := by omega
        obtain ⟨row, hrow⟩ : ∃ row, row = rows[i] := ⟨_, rfl⟩
        have hrow' : rows[i]'hin = row := hrow.symm
        have hrow2 : row.length ≤ 1000000 := by rw [hrow]; exact hrr _ (List.getElem_mem hin)
        have hts : allRows c rows (i + 1) = rowB c row := by unfold allRows at hok ⊢; rw [List.take_succ_eq_append_getElem hin, List.all_append, hok, hrow']; simp
        have hbad : rowB c row = false → chkE (m : Int) (c : Int) rows = 80 := fun h => okG_cut hin (by rw [hrow']; exact h)
        by_cases hl : row.length = N
        · have hlI : (row.length : Int) = (N : Int) := by omega
          have hrb : rowB c row = rowOn c row N := by unfold rowB; rw [hl, hN]; simp
          have hNp : 0 < N := by rw [hN]; exact Nat.mul_pos (Nat.mul_pos hc hc) hc
          have hrne : ¬ row = [] := fun e => by rw [e] at hl; simp at hl; omega
          have hli : listI row = .sl N (row.map (.int .i64)) := by rw [listI_ne hrne, intsA, hl]
          simp [h1, h22, h23, h24, hlt, hml, hrow', hw1, hw2, hli, hlI]
          refine awp_loop_g (γ := Nat) (fun k t h => (k ≤ N) ∧ (rowOn c row k = true) ∧ t 1 = .ptr b1 0 ∧ t 22 = .sl m (rows.map listI) ∧ t 23 = .int .i64 m ∧ t 24 = .int .i64 i ∧ t 39 = .sl N (row.map (.int .i64)) ∧ t 40 = .int .i64 N ∧ t 41 = .int .i64 k ∧ h = AHeap.empty.upd b1 (.cells [.int .i64 m, .int .i64 c, .sl m (rows.map listI)])) (fun k => N - k) (0) (turnA_self (by simp [h1, h22, h23, h24, rowOn])) ?_
          rintro k t h ⟨hk, hro, h1, h22, h23, h24, h39, h40, h41, rfl⟩
          by_cases hltk : k < N
          · have hwk : IntKind.i64.wrap ((k : Int) + 1) = (k : Int) + 1 := wrap_i64 (by omega) (by omega)
            have hkr : k < row.length := by omega
            have hrs := rowOn_succ c row k
            obtain ⟨x, hx⟩ : ∃ x, x = row[k] := ⟨_, rfl⟩
            have hx' : row[k]'hkr = x := hx.symm
            have hgx : row.getD k 0 = x := by simp [hkr, hx]
            rw [hro, hgx, Bool.true_and] at hrs
            have hcut : badB c k x = true → chkE (m : Int) (c : Int) rows = 80 := fun h => hbad (rowOn_cut hkr (by rw [hgx]; exact h))
            have d1 := quo1 (k := k) (c := c) (by omega)
            have d3 : Int.tmod ((k / c : Nat) : Int) (c : Int) = ((k / c % c : Nat) : Int) := rfl
            simp [h1, h22, h23, h24, h39, h40, h41, hltk, hl, hx']
            refine awp_draw_text (by kernel_rfl) [] [] (by kernel_rfl) (by kernel_rfl) (by simp) ?_
            by_cases n1 : x < -1
            · have hb : badB c k x = true := by simp [badB, n1]
              simp [h1, h22, h23, h24, h39, h40, h41, n1, hc0']
              exact finA_drop (by rw [hcut hb])
            · by_cases n2 : (c : Int) ≤ x
              · have hb : badB c k x = true := by simp [badB, n2]
                simp [h1, h22, h23, h24, h39, h40, h41, n1, n2, hc0']
                exact finA_drop (by rw [hcut hb])
              · simp [h1, h22, h23, h24, h39, h40, h41, n1, n2, hc0']
                rw [d1, d3]
                obtain ⟨z, hz⟩ : ∃ z : Int, z = ((k / c % c : Nat) : Int) := ⟨_, rfl⟩
                rw [← hz]
                refine condA_dec (fun e => ?_) fun e => ?_
                · have hb : badB c k x = true := by unfold badB; rw [← hz]; simp [e]
                  simp [h1, h22, h23, h24, h39, h40, h41]
                  exact finA_drop (by rw [hcut hb])
                · have hb : badB c k x = false := by unfold badB; rw [← hz]; simp [e, n1, n2]
                  simp [h1, h22, h23, h24, h39, h40, h41]
                  exact turnA_self ⟨k + 1, by omega, by omega, by rw [hrs, hb]; rfl, by simp [h1, h22, h23, h24, h39, h40, h41, hwk]⟩
          · obtain rfl : k = N := by omega
            simp [h1, h22, h23, h24, h39, h40, h41]
            exact turnA_self ⟨i + 1, by omega, by omega, by rw [hts, hrb]; exact hro, by simp [h1, h22, h23, h24, h39, h40, h41, hwi]⟩
        · have hlI : ¬ (row.length : Int) = (N : Int) := by omega
          have hb : rowB c row = false := by unfold rowB; rw [← hN]; simp [hl]
          simp [h1, h22, h23, h24, hlt, hml, hrow', hw1, hw2, -lenA, lenA_list, hlI]
          exact finA_drop (by rw [hbad hb])
      · obtain rfl : i = m := by omega
        unfold allRows at hok
        rw [List.take_of_length_le (by omega)] at hok
        simp [h1, h22, h23, h24]
        exact finA_drop (by rw [hall, if_pos hok])
    · have hmlI : ¬ (rows.length : Int) = (m : Int) := by omega
      have he : chkE m c rows = 80 := by unfold chkE okG; simp [hmlI]
      simp [h0, -lenA, lenA_rowsL, hmlI, hml]
      exact finA_drop (by rw [he])
end Go.Proofs
