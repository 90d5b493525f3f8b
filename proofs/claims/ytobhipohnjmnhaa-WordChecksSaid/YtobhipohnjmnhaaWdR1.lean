/-
  Walks: the reference's Count.
-/
import Derived.Test.YtobhipohnjmnhaaWdB
set_option linter.unusedSimpArgs false
set_option linter.unusedVariables false
set_option linter.unusedSectionVars false
namespace Go.Proofs
open Go Go.AH
set_option maxRecDepth 10000
set_option maxHeartbeats 4000000

def fRow (row : List Nat) (x : Int) (nx : List Int) (j : Nat) : List Int := (List.range j).foldl (fun nx i => nx.set (row.getD i 0) (w64 (nx.getD (row.getD i 0) 0 + x))) nx
def fRound (m : Dfa) (c : List Int) (k : Nat) : List Int := (List.range k).foldl (fun nx s => fRow (m.next.getD s []) (c.getD s 0) nx m.k) (List.replicate m.next.length 0)
def fwd (m : Dfa) (n : Nat) : List Int := (List.range n).foldl (fun c _ => fRound m c m.next.length) ((List.replicate m.next.length 0).set 0 1)
def sumF (m : Dfa) (c : List Int) (k : Nat) : Int := (List.range k).foldl (fun z s => if m.good.getD s false then w64 (z + c.getD s 0) else z) 0
theorem fRow_succ (row : List Nat) (x : Int) (nx : List Int) (j : Nat) : fRow row x nx (j + 1) = (fRow row x nx j).set (row.getD j 0) (w64 ((fRow row x nx j).getD (row.getD j 0) 0 + x)) := by simp [fRow, List.range_succ, List.foldl_append]
theorem fRound_succ (m : Dfa) (c : List Int) (k : Nat) : fRound m c (k + 1) = fRow (m.next.getD k []) (c.getD k 0) (fRound m c k) m.k := by simp [fRound, List.range_succ, List.foldl_append]
theorem fwd_succ (m : Dfa) (n : Nat) : fwd m (n + 1) = fRound m (fwd m n) m.next.length := by simp [fwd, List.range_succ, List.foldl_append]
theorem sumF_succ (m : Dfa) (c : List Int) (k : Nat) : sumF m c (k + 1) = if m.good.getD k false then w64 (sumF m c k + c.getD k 0) else sumF m c k := by simp [sumF, List.range_succ, List.foldl_append]
theorem fRow_len (row : List Nat) (x : Int) (nx : List Int) (j : Nat) : (fRow row x nx j).length = nx.length := by
  induction j with
  | zero => simp [fRow]
  | succ j ih => rw [fRow_succ]; simp [ih]
theorem fRound_len (m : Dfa) (c : List Int) (k : Nat) : (fRound m c k).length = m.next.length := by
  induction k with
  | zero => simp [fRound]
  | succ k ih => rw [fRound_succ, fRow_len, ih]
theorem fwd_len (m : Dfa) (n : Nat) : (fwd m n).length = m.next.length := by
  cases n with
  | zero => simp [fwd]
  | succ n => rw [fwd_succ, fRound_len]

theorem w_refCount (m : Dfa) (hm : m.ok) (n : Nat) (h30 : n ≤ 30) : Pure Try.prog 19 [m.av, .int .i64 n] (.int .i64 (sumF m (fwd m n) m.next.length)) := by
  refine pure_of (acalls_of Try.func19 rfl Try.call19 (by kernel_rfl) (by show _ ≤ (86 : Nat); simp) ?_)
  obtain ⟨k1, k4, n1, n64, gl, rl, lt⟩ := hm
  simp [Dfa.av, nrowsA]
  intro ba hba
  simp
  refine ⟨by omega, fun b1 hb1 => ?_⟩
  simp at hb1
  have h1' : 0 < m.next.length := by omega
  simp [hb1, h1']
  refine ⟨n1, ?_⟩
  refine awp_loop_g (γ := Nat × Nat) (fun i t h => (i.1 ≤ n) ∧ (Fresh AHeap.empty i.2 ∧ ¬ i.2 = ba ∧ ¬ ba = i.2) ∧ t 1 = .int .i64 n ∧ t 2 = .ptr ba 0 ∧ t 5 = .osl i.2 0 m.next.length 1 ∧ t 6 = .int .i64 i.1 ∧ h = (AHeap.empty.upd ba (.cells [.int .i64 m.k, .sl m.next.length (m.next.map natsA), boolsA m.good])).upd i.2 (.cells (ii64 (fwd m i.1)))) (fun i => n - i.1) ((0, b1)) (turnA_self (by simp [hb1, ii64, fwd, List.map_set])) ?_
  rintro i t h ⟨hi, hbi, h1, h2, h5, h6, rfl⟩
  obtain ⟨i, bi⟩ := i
  simp only at h1 h2 h5 h6 hi hbi
  simp at hbi
  have hfl := fwd_len m i
  by_cases hlt2 : i < n
  · simp [h1, h2, h5, h6, hlt2, hbi]
    refine ⟨by omega, fun b3 hb3 => ?_⟩
    simp at hb3
    simp [hb3, hbi, h1, h2, h5, h6]
    refine awp_loop_g (γ := Nat) (fun s t h => (s ≤ m.next.length) ∧ t 1 = .int .i64 n ∧ t 2 = .ptr ba 0 ∧ t 5 = .osl bi 0 m.next.length 1 ∧ t 6 = .int .i64 i ∧ t 7 = .osl b3 0 m.next.length 1 ∧ t 8 = .int .i64 s ∧ h = ((AHeap.empty.upd ba (.cells [.int .i64 m.k, .sl m.next.length (m.next.map natsA), boolsA m.good])).upd bi (.cells (ii64 (fwd m i)))).upd b3 (.cells (ii64 (fRound m (fwd m i) s)))) (fun s => m.next.length - s) (0) (turnA_self (by simp [h1, h2, h5, h6, ii64, fRound])) ?_
    rintro s t h ⟨hs, h1, h2, h5, h6, h7, h8, rfl⟩
    by_cases hlt3 : s < m.next.length
    · have hrow : m.next[s].length = m.k := rl _ (List.getElem_mem hlt3)
      have hgr : m.next.getD s [] = m.next[s] := by simp [hlt3]
      have hgw : (fwd m i).getD s 0 = (fwd m i)[s]'(by omega) := by simp [hfl, hlt3]
      simp [h1, h2, h5, h6, h7, h8, hlt3, hb3, hbi]
      refine awp_loop_g (γ := Nat) (fun j t h => (j ≤ m.k) ∧ t 1 = .int .i64 n ∧ t 2 = .ptr ba 0 ∧ t 5 = .osl bi 0 m.next.length 1 ∧ t 6 = .int .i64 i ∧ t 7 = .osl b3 0 m.next.length 1 ∧ t 8 = .int .i64 s ∧ t 9 = .int .i64 j ∧ h = ((AHeap.empty.upd ba (.cells [.int .i64 m.k, .sl m.next.length (m.next.map natsA), boolsA m.good])).upd bi (.cells (ii64 (fwd m i)))).upd b3 (.cells (ii64 (fRow (m.next[s]'hlt3) ((fwd m i)[s]'(by omega)) (fRound m (fwd m i) s) j)))) (fun j => m.k - j) (0) (turnA_self (by simp [h1, h2, h5, h6, h7, h8, ii64, fRow])) ?_
      rintro j t h ⟨hj, h1, h2, h5, h6, h7, h8, h9, rfl⟩
      by_cases hlt4 : j < m.k
      · have hjr : j < m.next[s].length := by omega
        have hx : m.next[s][j] < m.next.length := lt _ (List.getElem_mem hlt3) _ (List.getElem_mem hjr)
        have hc2 : m.next[s][j] < (fRow (m.next[s]'hlt3) ((fwd m i)[s]'(by omega)) (fRound m (fwd m i) s) j).length := by rw [fRow_len, fRound_len]; exact hx
        have hsucc := fRow_succ (m.next[s]'hlt3) ((fwd m i)[s]'(by omega)) (fRound m (fwd m i) s) j
        have hw : IntKind.i64.wrap ((j : Int) + 1) = (j : Int) + 1 := wrap_i64 (by omega) (by omega)
        simp [h1, h2, h5, h6, h7, h8, h9, hlt4, hjr, hb3, hbi]
        refine awp_draw_text (by kernel_rfl) [] [] (by kernel_rfl) (by kernel_rfl) (by simp) ?_
        simp [h1, h2, h5, h6, h7, h8, h9, hlt3, hjr, hx, hb3, hbi, ii64, hc2, hfl, natsA, hrow, hlt4]
        have hx1 : m.next[s].getD j 0 = m.next[s][j] := by simp [hjr]
        have hx3 : (fRow (m.next[s]'hlt3) ((fwd m i)[s]'(by omega)) (fRound m (fwd m i) s) j).getD m.next[s][j] 0 = (fRow (m.next[s]'hlt3) ((fwd m i)[s]'(by omega)) (fRound m (fwd m i) s) j)[m.next[s][j]] := by simp [hc2]
        rw [hx1, hx3] at hsucc
        exact ⟨by omega, turnA_self ⟨j + 1, by omega, by omega, by simp [h1, h2, h5, h6, h7, h8, h9, hw, hsucc, List.map_set, w64]⟩⟩
      · obtain rfl : j = m.k := by omega
        have hw : IntKind.i64.wrap ((s : Int) + 1) = (s : Int) + 1 := wrap_i64 (by omega) (by omega)
        have hsucc := fRound_succ m (fwd m i) s
        rw [hgr, hgw] at hsucc
        simp [h1, h2, h5, h6, h7, h8, h9, hb3, hbi]
        exact turnA_self ⟨s + 1, by omega, by omega, by simp [h1, h2, h5, h6, h7, h8, h9, hw, hsucc]⟩
    · obtain rfl : s = m.next.length := by omega
      have hw : IntKind.i64.wrap ((i : Int) + 1) = (i : Int) + 1 := wrap_i64 (by omega) (by omega)
      have hsucc := fwd_succ m i
      simp [h1, h2, h5, h6, h7, h8, hb3, hbi]
      exact turnA_drop bi ⟨i + 1, by omega, by omega, b3, by simp [h1, h2, h5, h6, h7, h8, hw, hsucc, hb3, hbi]⟩
  · obtain rfl : i = n := by omega
    simp [h1, h2, h5, h6]
    refine awp_loop_g (γ := Nat) (fun s t h => (s ≤ m.next.length) ∧ t 2 = .ptr ba 0 ∧ t 5 = .osl bi 0 m.next.length 1 ∧ t 10 = .int .i64 (sumF m (fwd m i) s) ∧ t 11 = .int .i64 s ∧ h = (AHeap.empty.upd ba (.cells [.int .i64 m.k, .sl m.next.length (m.next.map natsA), boolsA m.good])).upd bi (.cells (ii64 (fwd m i)))) (fun s => m.next.length - s) (0) (turnA_self (by simp [h1, h2, h5, h6, sumF])) ?_
    rintro s t h ⟨hs, h2, h5, h10, h11, rfl⟩
    by_cases hlt3 : s < m.next.length
    · have hlg : s < m.good.length := by omega
      have hgg : m.good.getD s false = m.good[s] := by simp [hlg]
      have hgw : (fwd m i).getD s 0 = (fwd m i)[s]'(by omega) := by simp [hfl, hlt3]
      have hsucc := sumF_succ m (fwd m i) s
      rw [hgg, hgw] at hsucc
      have hw : IntKind.i64.wrap ((s : Int) + 1) = (s : Int) + 1 := wrap_i64 (by omega) (by omega)
      simp [h2, h5, h10, h11, hlt3, hlg, hbi, boolsA]
      refine condA_case ?_ ?_
      · intro hgk
        rw [if_pos hgk] at hsucc
        simp [h2, h5, h10, h11, hlt3, hbi, ii64, hfl]
        exact turnA_self ⟨s + 1, by omega, by omega, by simp [h2, h5, h10, h11, hw, hsucc, w64, boolsA]⟩
      · intro hgk
        rw [hgk] at hsucc
        simp [h2, h5, h10, h11]
        exact turnA_self ⟨s + 1, by omega, by omega, by simp [h2, h5, h10, h11, hw, hsucc, ii64, boolsA]⟩
    · obtain rfl : s = m.next.length := by omega
      simp [h2, h5, h10, h11, hbi]
      exact finA_self rfl
end Go.Proofs
