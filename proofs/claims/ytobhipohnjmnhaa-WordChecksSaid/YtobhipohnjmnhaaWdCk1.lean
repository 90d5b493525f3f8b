/-
  Whether anything is an automaton.
-/
import Derived.Test.YtobhipohnjmnhaaWdGrp
set_option linter.unusedSimpArgs false
set_option linter.unusedVariables false
set_option linter.unusedSectionVars false
namespace Go.Proofs
open Go Go.AH
set_option maxRecDepth 10000
set_option maxHeartbeats 4000000

/-- A list of whole numbers, of truth values, of rows: nil where it is empty. -/
def listI (l : List Int) : AV := if l = [] then .nilsl else intsA l
def listB (l : List Bool) : AV := if l = [] then .nilsl else boolsA l
def rowsL (l : List (List Int)) : AV := if l = [] then .nilsl else .sl l.length (l.map listI)
theorem listI_ne {l : List Int} (h : ¬ l = []) : listI l = intsA l := if_neg h
@[simp] theorem listI_frozen {l : List Int} : (listI l).frozen = true := by
  unfold listI
  split
  · rfl
  · simp [intsA, AV.frozen, frozens_iff]
@[simp] theorem listB_frozen {l : List Bool} : (listB l).frozen = true := by
  unfold listB
  split
  · rfl
  · simp
@[simp] theorem rowsL_frozen {l : List (List Int)} : (rowsL l).frozen = true := by
  unfold rowsL
  split
  · rfl
  · simp only [AV.frozen]; rw [frozens_iff]; intro a ha; obtain ⟨r, _, rfl⟩ := List.mem_map.1 ha; simp
@[simp] theorem listI_one {l : List Int} : (listI l).one = true := by unfold listI; split <;> rfl
@[simp] theorem listI_fit {l : List Int} : (listI l).fit = true := by unfold listI; split <;> rfl
@[simp] theorem listI_cells {l : List Int} : (listI l).cells = [listI l] := by unfold listI; split <;> rfl
@[simp] theorem listB_one {l : List Bool} : (listB l).one = true := by unfold listB; split <;> rfl
@[simp] theorem listB_fit {l : List Bool} : (listB l).fit = true := by unfold listB; split <;> rfl
@[simp] theorem listB_cells {l : List Bool} : (listB l).cells = [listB l] := by unfold listB; split <;> rfl
@[simp] theorem rowsL_one {l : List (List Int)} : (rowsL l).one = true := by unfold rowsL; split <;> rfl
@[simp] theorem rowsL_fit {l : List (List Int)} : (rowsL l).fit = true := by unfold rowsL; split <;> rfl
@[simp] theorem rowsL_cells {l : List (List Int)} : (rowsL l).cells = [rowsL l] := by unfold rowsL; split <;> rfl
@[simp] theorem frz_rowsL {l : List (List Int)} {k : Nat} {h h' : AHeap} : frzF k h h' (rowsL l) = rowsL l := frz_frozen k _ rowsL_frozen
@[simp] theorem frz_listI {l : List Int} {k : Nat} {h h' : AHeap} : frzF k h h' (listI l) = listI l := frz_frozen k _ listI_frozen
@[simp] theorem frz_listB {l : List Bool} {k : Nat} {h h' : AHeap} : frzF k h h' (listB l) = listB l := frz_frozen k _ listB_frozen
theorem lenA_listI {h : AHeap} (l : List Int) : lenA Try.prog h 97 (listI l) = some (.int .i64 (l.length : Int)) := by
  unfold listI
  split
  · next e => subst e; simp
  · simp [intsA]
theorem lenA_listB {h : AHeap} (l : List Bool) : lenA Try.prog h 23 (listB l) = some (.int .i64 (l.length : Int)) := by
  unfold listB
  split
  · next e => subst e; simp
  · simp [boolsA]
theorem lenA_rowsL {h : AHeap} (l : List (List Int)) : lenA Try.prog h 22 (rowsL l) = some (.int .i64 (l.length : Int)) := by
  unfold rowsL
  split
  · next e => subst e; simp
  · simp
def autoV (k : Int) (rows : List (List Int)) (good : List Bool) : AV := .agg [.int .i64 k, rowsL rows, listB good]

def badN (n : Nat) (x : Int) : Bool := decide (x < 0) || decide ((n : Int) ≤ x)
def rowB (k n : Nat) (row : List Int) : Bool := decide (row.length = k) && !row.any (badN n)
def chkV (k : Int) (rows : List (List Int)) (good : List Bool) : Int :=
  if k < 1 ∨ 4 < k then 1 else if rows.length < 1 ∨ 64 < rows.length ∨ good.length ≠ rows.length then 20 else if rows.all (rowB k.toNat rows.length) = true then 0 else 20
def allRows (k n : Nat) (rows : List (List Int)) (i : Nat) : Bool := (rows.take i).all (rowB k n)
theorem allRows_zero (k n : Nat) (rows : List (List Int)) : allRows k n rows 0 = true := rfl
theorem allRows_succ {k n : Nat} {rows : List (List Int)} {i : Nat} (hi : i < rows.length) (h : allRows k n rows i = true) : allRows k n rows (i + 1) = rowB k n rows[i] := by
  unfold allRows at h ⊢
  rw [List.take_succ_eq_append_getElem hi, List.all_append, h]; simp
theorem all_cut {k n : Nat} {rows : List (List Int)} {i : Nat} (hi : i < rows.length) (h : rowB k n rows[i] = false) : rows.all (rowB k n) = false := by
  rw [List.all_eq_false]
  exact ⟨_, List.getElem_mem hi, by rw [h]; simp⟩
theorem badN_eq (n : Nat) (x : Int) : badN n x = (decide (x < 0) || decide ((n : Int) ≤ x)) := rfl
theorem w_CheckV (k : Int) (rows : List (List Int)) (good : List Bool) (hrl : rows.length ≤ 1000000) (hrr : ∀ row ∈ rows, row.length ≤ 1000000) (hgl : good.length ≤ 1000000) : Pure Try.prog 65 [autoV k rows good] (.int .i64 (chkV k rows good)) := by
  refine pure_of (acalls_of Try.func65 rfl Try.call65 (by kernel_rfl) (by show _ ≤ (48 : Nat); simp) ?_)
  unfold autoV
  simp
  intro b1 hb1
  by_cases e1 : k < 1
  · have he : chkV k rows good = 1 := by unfold chkV; rw [if_pos (.inl e1)]
    simp [e1]
    exact finA_drop (by rw [he])
  · by_cases e2 : 4 < k
    · have he : chkV k rows good = 1 := by unfold chkV; rw [if_pos (.inr e2)]
      simp [e1, e2]
      exact finA_drop (by rw [he])
    · have hk : ¬ (k < 1 ∨ 4 < k) := fun q => q.elim e1 e2
      obtain ⟨k, rfl⟩ : ∃ a : Nat, k = a := ⟨k.toNat, by omega⟩
      have hc : chkV k rows good = if rows.length < 1 ∨ 64 < rows.length ∨ good.length ≠ rows.length then 20 else if rows.all (rowB k rows.length) = true then 0 else 20 := by
        unfold chkV; rw [if_neg hk]; rfl
      obtain ⟨n, hn⟩ : ∃ n, n = rows.length := ⟨_, rfl⟩
      rw [← hn] at hc
      simp [e1, e2, -lenA, lenA_rowsL, ← hn]
      intro b3 hb3
      simp at hb3
      by_cases n1 : n < 1
      · have n1' : n = 0 := by omega
        rw [if_pos (.inl n1)] at hc
        simp [hb3, n1, n1', -lenA]
        exact finA_drop (by rw [hc])
      · by_cases n2 : 64 < n
        · have n1I : ¬ (n : Int) < 1 := by omega
          have n2I : 64 < (n : Int) := by omega
          have n0 : ¬ n = 0 := by omega
          rw [if_pos (.inr (.inl n2))] at hc
          simp [hb3, n0, n1I, n2I, n2, -lenA]
          exact finA_drop (by rw [hc])
        · have n1I : ¬ (n : Int) < 1 := by omega
          have n2I : ¬ 64 < (n : Int) := by omega
          have n0 : ¬ n = 0 := by omega
          by_cases n3 : good.length = n
          · have n3I : (good.length : Int) = (n : Int) := by omega
            rw [if_neg (fun q => by rcases q with q | q | q <;> omega)] at hc
            have hne : ¬ rows = [] := fun e => by rw [e] at hn; simp at hn; omega
            have hrv : rowsL rows = .sl n (rows.map listI) := by unfold rowsL; rw [if_neg hne, hn]
            obtain ⟨V, hV⟩ : ∃ V, V = listB good := ⟨_, rfl⟩
            simp [hb3, n0, n1I, n2I, n2, -lenA, lenA_listB, n3I, n3]
            rw [hrv]
            rw [← hV]
            simp
            refine awp_loop_g (γ := Nat) (fun s t h => (s ≤ n) ∧ (allRows k n rows s = true) ∧ t 1 = .ptr b1 0 ∧ t 3 = .ptr b3 0 ∧ t 31 = .sl n (rows.map listI) ∧ t 32 = .int .i64 n ∧ t 33 = .int .i64 s ∧ h = (AHeap.empty.upd b1 (.cells [.int .i64 k, .sl n (rows.map listI), V])).upd b3 (.cells [.int .i64 n])) (fun s => n - s) (0) (turnA_self (by simp [allRows_zero])) ?_
            rintro s t h ⟨hs, hok, h1, h3, h31, h32, h33, rfl⟩
            by_cases hlt : s < n
            · have hin : s < rows.length := by omega
              have hw : IntKind.i64.wrap ((s : Int) + 1) = (s : Int) + 1 := wrap_i64 (by omega) (by omega)
              obtain ⟨row, hrow⟩ : ∃ row, row = rows[s] := ⟨_, rfl⟩
              have hrow' : rows[s]'hin = row := hrow.symm
              have hrow2 : row.length ≤ 1000000 := by rw [hrow]; exact hrr _ (List.getElem_mem hin)
              have hts : allRows k n rows (s + 1) = rowB k n row := by rw [allRows_succ hin hok, hrow']
              have hbad : rowB k n row = false → chkV k rows good = 20 := fun h => by rw [hc, all_cut hin (by rw [hrow']; exact h)]; rfl
              by_cases hl : row.length = k
              · have hlI : (row.length : Int) = (k : Int) := by omega
                have hrne : ¬ row = [] := fun e => by rw [e] at hl; simp at hl; omega
                have hli : listI row = .sl k (row.map (.int .i64)) := by rw [listI_ne hrne, intsA, hl]
                have hrb : rowB k n row = !row.any (badN n) := by unfold rowB; simp [hl]
                have c1 := w_containsFunc row (by omega) (.fn (.func 112) [] [.ptr b3 0]) _ ((AHeap.empty.upd b1 (.cells [.int .i64 k, .sl n (rows.map listI), V])).upd b3 (.cells [.int .i64 n]))
                  (fun x _ => w_check1 n _ b3 (by simp) x)
                rw [anyI, show (fun x : Int => decide (x < 0) || decide ((n : Int) ≤ x)) = badN n from rfl] at c1
                simp [h1, h3, h31, h32, h33, hlt, hin, hb3, hrow', hli, hlI]
                simp [intsA, hl] at c1
                refine c1.use ?_
                cases hany : row.any (badN n) with
                | true =>
                  simp [h1, h3, h31, h32, h33, hany]
                  exact finA_drop (by rw [hbad (by rw [hrb, hany]; rfl)])
                | false =>
                  simp [h1, h3, h31, h32, h33, hany]
                  exact turnA_self ⟨s + 1, by omega, by omega, by rw [hts, hrb, hany]; rfl, by simp [h1, h3, h31, h32, h33, hw]⟩
              · have hlI : ¬ (row.length : Int) = (k : Int) := by omega
                have hb : rowB k n row = false := by unfold rowB; simp [hl]
                simp [h1, h3, h31, h32, h33, hlt, hin, hb3, hrow', -lenA, lenA_listI, hlI]
                exact finA_drop (by rw [hbad hb])
            · obtain rfl : s = n := by omega
              unfold allRows at hok
              rw [List.take_of_length_le (by omega)] at hok
              simp [h1, h3, h31, h32, h33]
              exact finA_drop (by rw [hc, if_pos hok])
          · have n3I : ¬ (good.length : Int) = (n : Int) := by omega
            rw [if_pos (.inr (.inr n3))] at hc
            simp [hb3, n0, n1I, n2I, n2, -lenA, lenA_listB, n3I, n3]
            exact finA_drop (by rw [hc])
theorem r_CheckV (k : Int) (rows : List (List Int)) (good : List Bool) (hrl : rows.length ≤ 1000000) (hrr : ∀ row ∈ rows, row.length ≤ 1000000) (hgl : good.length ≤ 1000000) : Pure Try.prog 64 [autoV k rows good] (.int .i64 (chkV k rows good)) := by
  refine pure_of (acalls_of Try.func64 rfl Try.call64 (by kernel_rfl) (by show _ ≤ (77 : Nat); simp) ?_)
  unfold autoV
  simp
  intro b1 hb1
  by_cases e1 : k < 1
  · have he : chkV k rows good = 1 := by unfold chkV; rw [if_pos (.inl e1)]
    simp [e1]
    exact finA_drop (by rw [he])
  · by_cases e2 : 4 < k
    · have he : chkV k rows good = 1 := by unfold chkV; rw [if_pos (.inr e2)]
      simp [e1, e2]
      exact finA_drop (by rw [he])
    · have hk : ¬ (k < 1 ∨ 4 < k) := fun q => q.elim e1 e2
      obtain ⟨k, rfl⟩ : ∃ a : Nat, k = a := ⟨k.toNat, by omega⟩
      have hc : chkV k rows good = if rows.length < 1 ∨ 64 < rows.length ∨ good.length ≠ rows.length then 20 else if rows.all (rowB k rows.length) = true then 0 else 20 := by
        unfold chkV; rw [if_neg hk]; rfl
      obtain ⟨n, hn⟩ : ∃ n, n = rows.length := ⟨_, rfl⟩
      rw [← hn] at hc
      by_cases n1 : n < 1
      · have n1' : n = 0 := by omega
        rw [if_pos (.inl n1)] at hc
        simp [e1, e2, -lenA, lenA_rowsL, ← hn, n1, n1']
        exact finA_drop (by rw [hc])
      · by_cases n2 : 64 < n
        · have n1I : ¬ (n : Int) < 1 := by omega
          have n2I : 64 < (n : Int) := by omega
          have n0 : ¬ n = 0 := by omega
          rw [if_pos (.inr (.inl n2))] at hc
          simp [e1, e2, -lenA, lenA_rowsL, ← hn, n0, n1I, n2I, n2]
          exact finA_drop (by rw [hc])
        · have n1I : ¬ (n : Int) < 1 := by omega
          have n2I : ¬ 64 < (n : Int) := by omega
          have n0 : ¬ n = 0 := by omega
          by_cases n3 : good.length = n
          · have n3I : (good.length : Int) = (n : Int) := by omega
            rw [if_neg (fun q => by rcases q with q | q | q <;> omega)] at hc
            have hne : ¬ rows = [] := fun e => by rw [e] at hn; simp at hn; omega
            have hrv : rowsL rows = .sl n (rows.map listI) := by unfold rowsL; rw [if_neg hne, hn]
            obtain ⟨V, hV⟩ : ∃ V, V = listB good := ⟨_, rfl⟩
            simp [e1, e2, -lenA, lenA_rowsL, lenA_listB, ← hn, n0, n1I, n2I, n2, n3I, n3]
            rw [hrv, ← hV]
            refine awp_loop_g (γ := Nat) (fun s t h => (s ≤ n) ∧ (allRows k n rows s = true) ∧ t 1 = .ptr b1 0 ∧ t 3 = .int .i64 s ∧ h = AHeap.empty.upd b1 (.cells [.int .i64 k, .sl n (rows.map listI), V])) (fun s => n - s) (0) (turnA_self (by simp [allRows_zero])) ?_
            rintro s t h ⟨hs, hok, h1, h3, rfl⟩
            by_cases hlt : s < n
            · have hltI : (s : Int) < (n : Int) := by omega
              have hin : s < rows.length := by omega
              have hw : IntKind.i64.wrap ((s : Int) + 1) = (s : Int) + 1 := wrap_i64 (by omega) (by omega)
              obtain ⟨row, hrow⟩ : ∃ row, row = rows[s] := ⟨_, rfl⟩
              have hrow' : rows[s]'hin = row := hrow.symm
              have hrow2 : row.length ≤ 1000000 := by rw [hrow]; exact hrr _ (List.getElem_mem hin)
              have hts : allRows k n rows (s + 1) = rowB k n row := by rw [allRows_succ hin hok, hrow']
              have hbad : rowB k n row = false → chkV k rows good = 20 := fun h => by rw [hc, all_cut hin (by rw [hrow']; exact h)]; rfl
              simp [h1, h3, hlt, hin]
              refine awp_draw_text (by kernel_rfl) [] [] (by kernel_rfl) (by kernel_rfl) (by simp) ?_
              by_cases hl : row.length = k
              · have hlI : (row.length : Int) = (k : Int) := by omega
                have hrne : ¬ row = [] := fun e => by rw [e] at hl; simp at hl; omega
                have hli : listI row = .sl k (row.map (.int .i64)) := by rw [listI_ne hrne, intsA, hl]
                have hrb : rowB k n row = !row.any (badN n) := by unfold rowB; simp [hl]
                simp [h1, h3, hlt, hin, hrow', hli, hlI]
                refine awp_loop_g (γ := Nat) (fun i t h => (i ≤ k) ∧ ((row.take i).any (badN n) = false) ∧ t 1 = .ptr b1 0 ∧ t 3 = .int .i64 s ∧ t 4 = .int .i64 i ∧ h = AHeap.empty.upd b1 (.cells [.int .i64 k, .sl n (rows.map listI), V])) (fun i => k - i) (0) (turnA_self (by simp [h1, h3])) ?_
                rintro i t h ⟨hi, hro, h1, h3, h4, rfl⟩
                by_cases hik : i < k
                · have hikI : (i : Int) < (k : Int) := by omega
                  have hwi : IntKind.i64.wrap ((i : Int) + 1) = (i : Int) + 1 := wrap_i64 (by omega) (by omega)
                  have hir : i < row.length := by omega
                  obtain ⟨x, hx⟩ : ∃ x, x = row[i] := ⟨_, rfl⟩
                  have hx' : row[i]'hir = x := hx.symm
                  have hnx : (row.take (i + 1)).any (badN n) = badN n x := by rw [List.take_succ_eq_append_getElem hir, List.any_append, hro, hx']; simp
                  have hcut : badN n x = true → chkV k rows good = 20 := fun h => hbad (by
                    rw [hrb, List.any_eq_true.2 ⟨x, by rw [hx]; exact List.getElem_mem hir, h⟩]; rfl)
                  simp [h1, h3, h4, hik, hikI]
                  refine awp_draw_text (by kernel_rfl) [] [] (by kernel_rfl) (by kernel_rfl) (by simp) ?_
                  by_cases m1 : x < 0
                  · have hb : badN n x = true := by simp [badN, m1]
                    simp [h1, h3, h4, hlt, hin, hrow', hli, hik, hir, hx', m1]
                    exact finA_drop (by rw [hcut hb])
                  · by_cases m2 : (n : Int) ≤ x
                    · have hb : badN n x = true := by simp [badN, m2]
                      simp [h1, h3, h4, hlt, hin, hrow', hli, hik, hir, hx', m1, m2]
                      exact finA_drop (by rw [hcut hb])
                    · have hb : badN n x = false := by simp [badN]; omega
                      simp [h1, h3, h4, hlt, hin, hrow', hli, hik, hir, hx', m1, m2]
                      exact turnA_self ⟨i + 1, by omega, by omega, by have q := hnx.trans hb; simpa using q, by simp [h1, h3, h4, hwi]⟩
                · obtain rfl : i = k := by omega
                  rw [List.take_of_length_le (by omega)] at hro
                  simp [h1, h3, h4]
                  exact turnA_self ⟨s + 1, by omega, by omega, by rw [hts, hrb, hro]; rfl, by simp [h1, h3, h4, hw]⟩
              · have hlI : ¬ (row.length : Int) = (k : Int) := by omega
                have hb : rowB k n row = false := by unfold rowB; simp [hl]
                simp [h1, h3, hlt, hin, hrow', -lenA, lenA_listI, hlI]
                exact finA_drop (by rw [hbad hb])
            · obtain rfl : s = n := by omega
              unfold allRows at hok
              rw [List.take_of_length_le (by omega)] at hok
              simp [h1, h3]
              exact finA_drop (by rw [hc, if_pos hok])
          · have n3I : ¬ (good.length : Int) = (n : Int) := by omega
            rw [if_pos (.inr (.inr n3))] at hc
            simp [e1, e2, -lenA, lenA_rowsL, lenA_listB, ← hn, n0, n1I, n2I, n2, n3I, n3]
            exact finA_drop (by rw [hc])
end Go.Proofs
