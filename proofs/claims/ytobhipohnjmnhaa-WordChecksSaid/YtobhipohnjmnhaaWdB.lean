/-
  Walks: the numbers of words.
-/
import Derived.Test.YtobhipohnjmnhaaV1
set_option linter.unusedSimpArgs false
set_option linter.unusedVariables false
set_option linter.unusedSectionVars false
namespace Go.Proofs
open Go Go.AH
set_option maxRecDepth 10000
set_option maxHeartbeats 4000000

/-! ### Count -/
def w64 (x : Int) : Int := IntKind.i64.wrap x
def cntStart (m : Dfa) (k : Nat) : List Int := (List.range k).foldl (fun c s => if m.good.getD s false then c.set s 1 else c) (List.replicate m.next.length 0)
def cntRow (row : List Nat) (c : List Int) (s : Nat) (nx : List Int) (j : Nat) : List Int := (List.range j).foldl (fun nx i => nx.set s (w64 (nx.getD s 0 + c.getD (row.getD i 0) 0))) nx
def cntRound (m : Dfa) (c : List Int) (k : Nat) : List Int := (List.range k).foldl (fun nx s => cntRow (m.next.getD s []) c s nx m.k) (List.replicate m.next.length 0)
def cntF (m : Dfa) (n : Nat) : List Int := (List.range n).foldl (fun c _ => cntRound m c m.next.length) (cntStart m m.next.length)
theorem cntStart_succ (m : Dfa) (k : Nat) : cntStart m (k + 1) = if m.good.getD k false then (cntStart m k).set k 1 else cntStart m k := by simp [cntStart, List.range_succ, List.foldl_append]
theorem cntRow_succ (row : List Nat) (c : List Int) (s : Nat) (nx : List Int) (j : Nat) : cntRow row c s nx (j + 1) = (cntRow row c s nx j).set s (w64 ((cntRow row c s nx j).getD s 0 + c.getD (row.getD j 0) 0)) := by simp [cntRow, List.range_succ, List.foldl_append]
theorem cntRound_succ (m : Dfa) (c : List Int) (k : Nat) : cntRound m c (k + 1) = cntRow (m.next.getD k []) c k (cntRound m c k) m.k := by simp [cntRound, List.range_succ, List.foldl_append]
theorem cntF_succ (m : Dfa) (n : Nat) : cntF m (n + 1) = cntRound m (cntF m n) m.next.length := by simp [cntF, List.range_succ, List.foldl_append]
theorem cntStart_len (m : Dfa) (k : Nat) : (cntStart m k).length = m.next.length := by
  induction k with
  | zero => simp [cntStart]
  | succ k ih => rw [cntStart_succ]; split <;> simp [ih]
theorem cntRow_len (row : List Nat) (c : List Int) (s : Nat) (nx : List Int) (j : Nat) : (cntRow row c s nx j).length = nx.length := by
  induction j with
  | zero => simp [cntRow]
  | succ k ih => rw [cntRow_succ]; simp [ih]
theorem cntRound_len (m : Dfa) (c : List Int) (k : Nat) : (cntRound m c k).length = m.next.length := by
  induction k with
  | zero => simp [cntRound]
  | succ k ih => rw [cntRound_succ, cntRow_len, ih]
theorem cntF_len (m : Dfa) (n : Nat) : (cntF m n).length = m.next.length := by
  cases n with
  | zero => simp [cntF, cntStart_len]
  | succ k => rw [cntF_succ, cntRound_len]

def ii64 (l : List Int) : List AV := l.map (.int .i64)

theorem w_count (m : Dfa) (hm : m.ok) (n : Nat) (h30 : n ≤ 30) (hcheck : ∀ m : Dfa, m.ok → Pure Try.prog 65 [m.av] (.int .i64 0)) : Pure Try.prog 18 [m.av, .int .i64 n] (.tup [.int .i64 ((cntF m n).getD 0 0), .int .i64 0]) := by
  refine pure_of (acalls_of Try.func18 rfl Try.call18 (by kernel_rfl) (by show _ ≤ (80 : Nat); simp) ?_)
  have hc := hcheck m hm
  simp only [Dfa.av] at hc ⊢
  obtain ⟨k1, k4, n1, n64, gl, rl, lt⟩ := hm
  simp
  intro ba hba
  simp
  refine hc.use ?_
  simp
  have e1 : ¬ (n : Int) < 0 := by omega
  have e2 : ¬ 30 < (n : Int) := by omega
  simp [e1, e2, nrowsA, boolsA, gl]
  refine ⟨by omega, fun b1 hb1 => ?_⟩
  simp at hb1
  simp [hb1]
  refine awp_loop_g (γ := Nat) (fun k t h => (k ≤ m.next.length) ∧ t 1 = .int .i64 n ∧ t 2 = .ptr ba 0 ∧ t 7 = .osl b1 0 m.next.length 1 ∧ t 31 = .sl m.next.length (m.good.map .bool) ∧ t 32 = .int .i64 m.next.length ∧ t 33 = .int .i64 k ∧ h = (AHeap.empty.upd ba (.cells [.int .i64 m.k, .sl m.next.length (m.next.map natsA), .sl m.next.length (m.good.map .bool)])).upd b1 (.cells (ii64 (cntStart m k)))) (fun k => m.next.length - k) (0) (turnA_self (by simp [ii64, cntStart])) ?_
  rintro k t h ⟨hk, h1, h2, h7, h31, h32, h33, rfl⟩
  by_cases hlt : k < m.next.length
  · have hlt' : k < m.good.length := by omega
    have hlen := cntStart_len m k
    have hs := cntStart_succ m k
    have hg : m.good.getD k false = m.good[k] := by simp [hlt']
    rw [hg] at hs
    simp [h1, h2, h7, h31, h32, h33, hlt, hlt', hb1]
    have hw : IntKind.i64.wrap ((k : Int) + 1) = (k : Int) + 1 := wrap_i64 (by omega) (by omega)
    refine condA_case ?_ ?_
    · intro hgk
      rw [if_pos hgk] at hs
      simp [h1, h2, h7, h31, h32, h33, hlt', hb1, hlen, hlt, ii64]
      exact ⟨by omega, turnA_self ⟨k + 1, by omega, by omega, by simp [h1, h2, h7, h31, h32, h33, hw, hs, List.map_set]⟩⟩
    · intro hgk
      rw [hgk] at hs
      simp [h1, h2, h7, h31, h32, h33, hlt', hb1, hlen, hlt, ii64]
      exact turnA_self ⟨k + 1, by omega, by omega, by simp [h1, h2, h7, h31, h32, h33, hw, hs]⟩
  · obtain rfl : k = m.next.length := by omega
    simp [h1, h2, h7, h31, h32, h33, gl]
    refine awp_loop_g (γ := Nat × Nat) (fun i t h => (i.1 ≤ n) ∧ (Fresh AHeap.empty i.2 ∧ ¬ i.2 = ba ∧ ¬ ba = i.2) ∧ t 2 = .ptr ba 0 ∧ t 7 = .osl i.2 0 m.next.length 1 ∧ t 43 = .int .i64 n ∧ t 44 = .int .i64 i.1 ∧ h = (AHeap.empty.upd ba (.cells [.int .i64 m.k, .sl m.next.length (m.next.map natsA), .sl m.next.length (m.good.map .bool)])).upd i.2 (.cells (ii64 (cntF m i.1)))) (fun i => n - i.1) ((0, b1)) (turnA_self (by simp [hb1, ii64, cntF, h1, h2, h7, h31, h32, h33])) ?_
    rintro i t h ⟨hi, hbi, h2, h7, h43, h44, rfl⟩
    obtain ⟨i, bi⟩ := i
    simp only at h2 h7 h43 h44 hi hbi
    simp at hbi
    by_cases hlt2 : i < n
    · simp [h2, h7, h43, h44, hlt2, hbi]
      refine ⟨by omega, fun b3 hb3 => ?_⟩
      simp at hb3
      simp [hb3, hbi, h2, h7, h43, h44]
      refine awp_loop_g (γ := Nat) (fun s t h => (s ≤ m.next.length) ∧ t 2 = .ptr ba 0 ∧ t 7 = .osl bi 0 m.next.length 1 ∧ t 10 = .osl b3 0 m.next.length 1 ∧ t 43 = .int .i64 n ∧ t 44 = .int .i64 i ∧ t 50 = .sl m.next.length (m.next.map natsA) ∧ t 51 = .int .i64 m.next.length ∧ t 52 = .int .i64 s ∧ h = ((AHeap.empty.upd ba (.cells [.int .i64 m.k, .sl m.next.length (m.next.map natsA), .sl m.next.length (m.good.map .bool)])).upd bi (.cells (ii64 (cntF m i)))).upd b3 (.cells (ii64 (cntRound m (cntF m i) s)))) (fun s => m.next.length - s) (0) (turnA_self (by simp [h2, h7, h43, h44, ii64, cntRound])) ?_
      rintro s t h ⟨hs, h2, h7, h10, h43, h44, h50, h51, h52, rfl⟩
      by_cases hlt3 : s < m.next.length
      · have hrow : m.next[s].length = m.k := rl _ (List.getElem_mem hlt3)
        simp [h2, h7, h10, h43, h44, h50, h51, h52, hlt3, hb3, hbi, natsA]
        refine awp_loop_g (γ := Nat) (fun j t h => (j ≤ m.k) ∧ t 2 = .ptr ba 0 ∧ t 7 = .osl bi 0 m.next.length 1 ∧ t 10 = .osl b3 0 m.next.length 1 ∧ t 11 = .int .i64 s ∧ t 43 = .int .i64 n ∧ t 44 = .int .i64 i ∧ t 50 = .sl m.next.length (m.next.map natsA) ∧ t 51 = .int .i64 m.next.length ∧ t 52 = .int .i64 s ∧ t 57 = .sl m.k ((m.next[s]'hlt3).map fun x : Nat => AV.int .i64 (x : Int)) ∧ t 58 = .int .i64 m.k ∧ t 59 = .int .i64 j ∧ h = ((AHeap.empty.upd ba (.cells [.int .i64 m.k, .sl m.next.length (m.next.map natsA), .sl m.next.length (m.good.map .bool)])).upd bi (.cells (ii64 (cntF m i)))).upd b3 (.cells (ii64 (cntRow (m.next[s]'hlt3) (cntF m i) s (cntRound m (cntF m i) s) j)))) (fun j => m.k - j) (0) (turnA_self (by simp [h2, h7, h10, h43, h44, h50, h51, h52, ii64, cntRow, hrow])) ?_
        rintro j t h ⟨hj, h2, h7, h10, h11, h43, h44, h50, h51, h52, h57, h58, h59, rfl⟩
        by_cases hlt4 : j < m.k
        · have hjr : j < m.next[s].length := by omega
          have hx : m.next[s][j] < m.next.length := lt _ (List.getElem_mem hlt3) _ (List.getElem_mem hjr)
          have hc1 : m.next[s][j] < (cntF m i).length := by rw [cntF_len]; exact hx
          have hc2 : s < (cntRow (m.next[s]'hlt3) (cntF m i) s (cntRound m (cntF m i) s) j).length := by rw [cntRow_len, cntRound_len]; exact hlt3
          have hsucc := cntRow_succ (m.next[s]'hlt3) (cntF m i) s (cntRound m (cntF m i) s) j
          have hw : IntKind.i64.wrap ((j : Int) + 1) = (j : Int) + 1 := wrap_i64 (by omega) (by omega)
          simp [h2, h7, h10, h11, h43, h44, h50, h51, h52, h57, h58, h59, hlt4, hjr, hb3, hbi]
          refine awp_draw_text (by kernel_rfl) [] [] (by kernel_rfl) (by kernel_rfl) (by simp) ?_
          simp [h2, h7, h10, h11, h43, h44, h50, h51, h52, h57, h58, h59, hlt3, hx, hb3, hbi, ii64, hc1, hc2]
          have hx1 : m.next[s].getD j 0 = m.next[s][j] := by simp [hjr]
          have hx2 : (cntF m i).getD m.next[s][j] 0 = (cntF m i)[m.next[s][j]] := by simp [hc1]
          have hx3 : (cntRow (m.next[s]'hlt3) (cntF m i) s (cntRound m (cntF m i) s) j).getD s 0 = (cntRow (m.next[s]'hlt3) (cntF m i) s (cntRound m (cntF m i) s) j)[s] := by simp [hc2]
          rw [hx1, hx2, hx3] at hsucc
          exact ⟨by omega, turnA_self ⟨j + 1, by omega, by omega, by simp [h2, h7, h10, h11, h43, h44, h50, h51, h52, h57, h58, h59, hw, hsucc, List.map_set, w64]⟩⟩
        · obtain rfl : j = m.k := by omega
          have hw : IntKind.i64.wrap ((s : Int) + 1) = (s : Int) + 1 := wrap_i64 (by omega) (by omega)
          have hsucc := cntRound_succ m (cntF m i) s
          simp [h2, h7, h10, h11, h43, h44, h50, h51, h52, h57, h58, h59]
          exact turnA_self ⟨s + 1, by omega, by omega, by simp [h2, h7, h10, h11, h43, h44, h50, h51, h52, h57, h58, h59, hw, hsucc, hlt3]⟩
      · obtain rfl : s = m.next.length := by omega
        have hw : IntKind.i64.wrap ((i : Int) + 1) = (i : Int) + 1 := wrap_i64 (by omega) (by omega)
        have hsucc := cntF_succ m i
        simp [h2, h7, h10, h43, h44, h50, h51, h52, hb3, hbi]
        exact turnA_drop bi ⟨i + 1, by omega, by omega, b3, by simp [h2, h7, h10, h43, h44, h50, h51, h52, hw, hsucc, hb3, hbi]⟩
    · obtain rfl : i = n := by omega
      have hl := cntF_len m i
      have h0 : 0 < (cntF m i).length := by omega
      have h1' : 0 < m.next.length := by omega
      simp [h2, h7, h43, h44, ii64, n1, h0, h1']
      exact finA_self rfl
end Go.Proofs
