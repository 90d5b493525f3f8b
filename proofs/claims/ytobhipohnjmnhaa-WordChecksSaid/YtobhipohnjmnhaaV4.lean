/-
  Texts: WdS WdV.
-/
import Derived.Test.YtobhipohnjmnhaaV2
set_option linter.unusedSimpArgs false
set_option linter.unusedVariables false
set_option linter.unusedSectionVars false
section
/-
  Walks: the words that a machine accepts, in order.
-/
namespace Go.Proofs
open Go Go.AH
set_option maxRecDepth 10000
set_option maxHeartbeats 4000000
set_option linter.unusedSectionVars false

section
variable {γ α : Type} (step : γ → α → γ) (go : γ → Bool)
theorem runIt_on : ∀ (A B : List α) (g : γ), go (runIt step go g A) = true → runIt step go g (A ++ B) = runIt step go (runIt step go g A) B
  | [], B, g, _ => rfl
  | a :: A, B, g, h => by
    simp only [List.cons_append, runIt] at h ⊢
    by_cases h1 : go (step g a) = true
    · rw [if_pos h1] at h; simp only [if_pos h1]; exact runIt_on A B _ h
    · rw [if_neg h1] at h; exact absurd h h1
theorem runIt_off : ∀ (A B : List α) (g : γ), go g = true → go (runIt step go g A) = false → runIt step go g (A ++ B) = runIt step go g A
  | [], B, g, hg, h => by simp [runIt, hg] at h
  | a :: A, B, g, hg, h => by
    simp only [List.cons_append, runIt] at h ⊢
    by_cases h1 : go (step g a) = true
    · rw [if_pos h1] at h; simp only [if_pos h1]; exact runIt_off A B _ h1 h
    · simp only [if_neg h1]
theorem runIt_go : ∀ (A : List α) (g : γ), go (runIt step go g A) = true → runIt step go g A = A.foldl step g
  | [], g, _ => rfl
  | a :: A, g, h => by
    simp only [runIt] at h ⊢
    by_cases h1 : go (step g a) = true
    · rw [if_pos h1] at h ⊢; exact runIt_go A _ h
    · rw [if_neg h1] at h; exact absurd h h1
end

theorem take_mid {α : Type} (A B C : List α) (i : Nat) (h : i ≤ B.length) : (A ++ (B ++ C)).take (A.length + i) = A ++ B.take i := by
  rw [List.take_append, List.take_of_length_le (by omega), Nat.add_sub_cancel_left, List.take_append, show i - B.length = 0 from by omega]
  simp
/-- The words of a length from a state on, behind a beginning. -/
def spellL (m : Dfa) (can : Nat → List Bool) : Nat → Nat → List UInt8 → List (List UInt8)
  | 0, _, r => [r]
  | n + 1, s, r => (List.range m.k).flatMap fun i => if (can n).getD ((m.next.getD s []).getD i 0) false then spellL m can n ((m.next.getD s []).getD i 0) (r ++ [ltr i]) else []

def cF (can : List (List Bool)) (n : Nat) : List Bool := can.getD n []
theorem spellL_congr (m : Dfa) (c c' : Nat → List Bool) : ∀ (n s : Nat) (r : List UInt8), (∀ i, i < n → c i = c' i) → spellL m c n s r = spellL m c' n s r
  | 0, _, _, _ => rfl
  | n + 1, s, r, h => by
    simp only [spellL, h n (by omega)]
    congr 1
    funext i
    split
    · exact spellL_congr m c c' n _ _ fun j hj => h j (by omega)
    · rfl
theorem w_spell (m : Dfa) (hm : m.wf) (can : List (List Bool)) (hcl : can.length ≤ 100000000) (hcr : ∀ r ∈ can, r.length = m.next.length) (bc : Nat) {γ : Type} (I : γ → AHeap → Prop) (step : γ → List UInt8 → γ) (go : γ → Bool) (y : AV)
    (hcan : ∀ g h, I g h → ∀ off, cellsAt h bc off = some ((can.map boolsA).drop off)) :
    ∀ (n : Nat), n ≤ can.length → ∀ (s : Nat), s < m.next.length → ∀ (r : List UInt8), r.length + n < 1000000000 → ∀ (g0 : γ) (h0 : AHeap), go g0 = true → I g0 h0 →
      (∀ i g a h, (spellL m (cF can) n s r)[i]? = some a → g = ((spellL m (cF can) n s r).take i).foldl step g0 → go g = true → I g h → ACallV Try.prog y [.str a] h fun r h' => r = .bool (go (step g a)) ∧ I (step g a) h') →
      ACalls Try.prog 121 [m.av, .int .i64 s, .int .i64 n, .osl bc 0 can.length 1, .str r, y] h0 fun q h' => q = .bool (go (runIt step go g0 (spellL m (cF can) n s r))) ∧ I (runIt step go g0 (spellL m (cF can) n s r)) h' := by
  intro n
  induction n with
  | zero =>
    intro _ s hs r hr g0 h0 hg0 hI0 hy
    refine acalls_of Try.func121 rfl Try.call121 (by kernel_rfl) (by show _ ≤ (54 : Nat); simp) ?_
    have hy0 := hy 0 g0 r h0 (by simp [spellL]) (by simp) hg0 hI0
    simp [Dfa.av]
    intro b6 hb6
    simp
    refine ACallV.mono (ACallV.keep hy0 hb6) ?_
    rintro q h' ⟨h1, rfl, hf1, rfl, hI1⟩
    simp
    refine finA_same h1 ((Drop.refl _).upd hf1) ?_
    have : runIt step go g0 (spellL m (cF can) 0 s r) = step g0 r := by simp only [spellL, runIt]; split <;> rfl
    rw [this]
    exact ⟨rfl, hI1⟩
  | succ n ih =>
    intro hn s hs r hr g0 h0 hg0 hI0 hy
    refine acalls_of Try.func121 rfl Try.call121 (by kernel_rfl) (by show _ ≤ (54 : Nat); simp) ?_
    have hrow : m.next[s].length = m.k := hm.rl _ (List.getElem_mem hs)
    have hk4 := hm.k4
    have hwn : IntKind.i64.wrap (n : Int) = n := wrap_i64 (by omega) (by omega)
    have hn0 : ¬ (n : Int) + 1 = 0 := by omega
    simp [Dfa.av]
    intro b6 hb6
    simp [hn0, nrowsA, hs, natsA, hrow]
    obtain ⟨ch, hch⟩ : ∃ ch : Nat → List (List UInt8), ch = fun i => if (cF can n).getD ((m.next.getD s []).getD i 0) false then spellL m (cF can) n ((m.next.getD s []).getD i 0) (r ++ [ltr i]) else [] := ⟨_, rfl⟩
    have hL : spellL m (cF can) (n + 1) s r = (List.range m.k).flatMap ch := by rw [hch]; rfl
    rw [hL] at hy ⊢
    refine awp_loop_g (γ := Nat × γ × AHeap) (fun g t h => (g.1 ≤ m.k) ∧ (go g.2.1 = true) ∧ (I g.2.1 g.2.2) ∧ (Fresh g.2.2 b6) ∧ (runIt step go g0 ((List.range g.1).flatMap ch) = g.2.1) ∧ t 1 = .int .i64 s ∧ t 2 = .int .i64 ((n : Int) + 1) ∧ t 3 = .osl bc 0 can.length 1 ∧ t 4 = .str r ∧ t 5 = y ∧ t 6 = .ptr b6 0 ∧ t 24 = .sl m.k ((m.next[s]'hs).map fun x : Nat => AV.int .i64 (x : Int)) ∧ t 25 = .int .i64 m.k ∧ t 26 = .int .i64 g.1 ∧ h = g.2.2.upd b6 (.cells [.int .i64 m.k, .sl m.next.length (m.next.map natsA), boolsA m.good])) (fun g => m.k - g.1) ((0, g0, h0)) (turnA_self (by simp [hg0, hI0, hb6, runIt])) ?_
    rintro g t h ⟨hi, hgo, hI, hf, hrun, h1, h2, h3, h4, h5, h6, h24, h25, h26, rfl⟩
    obtain ⟨i, g, hi1⟩ := g
    simp only at h1 h2 h3 h4 h5 h6 h24 h25 h26 hi hgo hI hf hrun
    by_cases hlt : i < m.k
    · have hjr : i < m.next[s].length := by omega
      have hx : m.next[s][i] < m.next.length := hm.lt _ (List.getElem_mem hs) _ (List.getElem_mem hjr)
      have hnc : n < can.length := by omega
      have hcrow : can[n].length = m.next.length := hcr _ (List.getElem_mem hnc)
      have hxc : m.next[s][i] < can[n].length := by omega
      have hbit : (cF can n).getD ((m.next.getD s []).getD i 0) false = can[n][m.next[s][i]] := by simp [cF, hs, hjr, hnc, hxc]
      have hnext : (m.next.getD s []).getD i 0 = m.next[s][i] := by simp [hs, hjr]
      have hchi : ch i = if can[n][m.next[s][i]] then spellL m (cF can) n m.next[s][i] (r ++ [ltr i]) else [] := by rw [hch]; simp only; rw [hbit, hnext]
      have hw : IntKind.i64.wrap ((i : Int) + 1) = (i : Int) + 1 := wrap_i64 (by omega) (by omega)
      have hc := hcan g hi1 hI
      have hbc := ne_fresh (hc 0) hf
      have hfl : (List.range (i + 1)).flatMap ch = (List.range i).flatMap ch ++ ch i := by simp [List.range_succ, List.flatMap_append]
      have hruni : runIt step go g0 ((List.range (i + 1)).flatMap ch) = runIt step go g (ch i) := by
        rw [hfl, runIt_on step go _ _ _ (by rw [hrun]; exact hgo), hrun]
      have hlen1 : r.length + 1 < 4611686018427387904 := by omega
      simp [h1, h2, h3, h4, h5, h6, h24, h25, h26, hlt, hjr]
      refine awp_draw_text (by kernel_rfl) [47] [(.fn (.func 124) [] [], [.int .i64 (i : Int)], .str [ltr i])] (by kernel_rfl) (by kernel_rfl) (by simp; exact PureV.of (w_letter i (by omega))) ?_
      have hfold : g = ((List.range i).flatMap ch).foldl step g0 := by rw [← hrun]; exact runIt_go step go _ _ (by rw [hrun]; exact hgo)
      cases hb : can[n][m.next[s][i]] with
      | false =>
        rw [hb] at hchi
        simp only [Bool.false_eq_true, if_false] at hchi
        rw [hchi] at hruni
        simp [h1, h2, h3, h4, h5, h6, h24, h25, h26, hwn, hc, hbc, hnc, boolsA, hxc, hb]
        exact turnA_self ⟨i + 1, by omega, by omega, g, hgo, hi1, hI, hf, hruni, by simp [h1, h2, h3, h4, h5, h6, h24, h25, h26, hw, boolsA]⟩
      | true =>
        rw [hb] at hchi
        simp only [if_true] at hchi
        simp [h1, h2, h3, h4, h5, h6, h24, h25, h26, hwn, hc, hbc, hnc, boolsA, hxc, hb, hlen1]
        have hsplit : (List.range m.k).flatMap ch = (List.range i).flatMap ch ++ (ch i ++ ((List.range m.k).drop (i + 1)).flatMap ch) := by
          have h1 : List.range m.k = List.range i ++ i :: (List.range m.k).drop (i + 1) := by
            have h2 : (List.range m.k).take i = List.range i := by rw [List.take_range]; congr 1; omega
            have h3 : (List.range m.k).drop i = i :: (List.range m.k).drop (i + 1) := by
              rw [List.drop_eq_getElem_cons (by simpa using hlt)]; simp
            rw [← h2, ← h3, List.take_append_drop]
          conv => lhs; rw [h1]
          simp [List.flatMap_append]
        have c1 := ih (by omega) m.next[s][i] hx (r ++ [ltr i]) (by simp; omega) g hi1 hgo hI (fun i' g' a h' ha hg' hgo' hI' => by
          rw [← hchi] at ha hg'
          have hlt' := (List.getElem?_eq_some_iff.1 ha).1
          refine hy (((List.range i).flatMap ch).length + i') g' a h' ?_ ?_ hgo' hI'
          · rw [hsplit, List.getElem?_append_right (by omega)]
            rw [Nat.add_sub_cancel_left, List.getElem?_append_left hlt']; exact ha
          · rw [hsplit, take_mid _ _ _ _ (by omega), List.foldl_append, ← hfold]; exact hg')
        rw [← hchi] at c1
        refine ACalls.mono (ACalls.keep (by simpa [Dfa.av, nrowsA, boolsA] using c1) hf) ?_
        rintro q h' ⟨h1', rfl, hf1, rfl, hI1⟩
        cases hgo1 : go (runIt step go g (ch i)) with
        | false =>
          have hfin : runIt step go g0 ((List.range m.k).flatMap ch) = runIt step go g (ch i) := by
            rw [hsplit, ← List.append_assoc, runIt_off step go _ _ _ hg0, runIt_on step go _ _ _ (by rw [hrun]; exact hgo), hrun]
            rw [runIt_on step go _ _ _ (by rw [hrun]; exact hgo), hrun]; exact hgo1
          simp [h1, h2, h3, h4, h5, h6, h24, h25, h26]
          refine finA_same h1' ((Drop.refl _).upd hf1) ?_
          rw [hfin]
          exact ⟨by rw [hgo1], hI1⟩
        | true =>
          simp [h1, h2, h3, h4, h5, h6, h24, h25, h26]
          exact turnA_self ⟨i + 1, by omega, by omega, runIt step go g (ch i), hgo1, h1', hI1, hf1, hruni, by simp [h1, h2, h3, h4, h5, h6, h24, h25, h26, hw, nrowsA, boolsA]⟩
    · obtain rfl : i = m.k := by omega
      simp [h1, h2, h3, h4, h5, h6, h24, h25, h26]
      refine finA_same hi1 ((Drop.refl _).upd hf) ?_
      rw [hrun]
      exact ⟨by rw [hgo], hI⟩

theorem w_clone (l : List Bool) (hl : l ≠ []) (hn : l.length ≤ 1000000) : Pure Try.prog 120 [boolsA l] (boolsA l) := by
  refine pure_of (acalls_of Try.func120 rfl Try.call120 (by kernel_rfl) (by show _ ≤ (8 : Nat); simp) ?_)
  match l, hl with
  | x :: l, _ =>
  simp only [List.length_cons] at hn
  simp [boolsA]
  intro b5 hb5
  simp
  refine ⟨by omega, ?_⟩
  intro b7 hb7
  simp at hb7
  simp
  refine finA_all 2 ?_
  simp [List.take_of_length_le]

/-- From which states a good one can be reached by so many letters. -/
def canR (m : Dfa) : Nat → List Bool
  | 0 => m.good
  | n + 1 => (List.range m.next.length).map fun s => (m.next.getD s []).any fun t => (canR m n).getD t false
theorem canR_len {m : Dfa} (hm : m.wf) (n : Nat) : (canR m n).length = m.next.length := by cases n <;> simp [canR, hm.gl]
def lenL (m : Dfa) (n : Nat) : List (List UInt8) := if (canR m n).getD 0 false then spellL m (canR m) n 0 [] else []
/-- How many lengths in a row have had no word. -/
def noneA (m : Dfa) : Nat → Nat
  | 0 => 0
  | n + 1 => if (canR m n).getD 0 false then 0 else noneA m n + 1

def canC (m : Dfa) (N : Nat) : List AV := ((List.range N).map (canR m)).map boolsA
@[simp] theorem canC_len (m : Dfa) (N : Nat) : (canC m N).length = N := by simp [canC]
@[simp] theorem canC_get (m : Dfa) (N n : Nat) : (canC m N)[n]? = if n < N then some (boolsA (canR m n)) else none := by
  unfold canC
  by_cases h : n < N
  · simp [h]
  · simp [h]
@[simp] theorem canC_elem (m : Dfa) (N n : Nat) (h : n < (canC m N).length) : (canC m N)[n] = boolsA (canR m n) := by simp [canC]
theorem canC_succ (m : Dfa) (N : Nat) : canC m (N + 1) = canC m N ++ [boolsA (canR m N)] := by simp [canC, List.range_succ]
theorem canC_one (m : Dfa) : canC m 1 = [boolsA m.good] := by simp [canC, canR]
theorem w_acc11 (m : Dfa) (hm : m.wf) (H : AHeap) (b3 b4 bc : Nat) (n : Nat) (e3 : cellsAt H b3 0 = some [.osl bc 0 (n + 1) 1]) (e4 : cellsAt H b4 0 = some [.int .i64 (n : Int)]) (ec : ∀ off, cellsAt H bc off = some ((canC m (n + 1)).drop off)) (t : Nat) (ht : t < m.next.length) :
    ACallV Try.prog (.fn (.func 122) [] [.ptr b3 0, .ptr b4 0]) [.int .i64 (t : Int)] H fun r h' => r = .bool ((canR m n).getD t false) ∧ h' = H := by
  rw [ACallV_func]
  have hl := canR_len hm n
  refine acalls_of Try.func122 rfl Try.call122 (by kernel_rfl) (by show _ ≤ (12 : Nat); simp) ?_
  have hnn : (n : Int) < n + 1 := by omega
  simp [e3, e4, ec, hnn, boolsA, hl, ht]
  exact finA_self ⟨rfl, rfl⟩

def nxF (m : Dfa) (n s : Nat) : List Bool := ((List.range s).map fun s => (m.next.getD s []).any fun t => (canR m n).getD t false) ++ List.replicate (m.next.length - s) false
theorem nxF_len (m : Dfa) (n s : Nat) (hs : s ≤ m.next.length) : (nxF m n s).length = m.next.length := by simp [nxF]; omega
theorem nxF_succ (m : Dfa) (n s : Nat) (hs : s < m.next.length) : nxF m n (s + 1) = (nxF m n s).set s ((m.next.getD s []).any fun t => (canR m n).getD t false) := by
  unfold nxF
  rw [List.set_append_right _ _ (by simp)]
  simp only [List.length_map, List.length_range, Nat.sub_self]
  rw [show m.next.length - s = (m.next.length - (s + 1)) + 1 from by omega, List.replicate_succ, List.set_cons_zero, List.range_succ, List.map_append, List.append_assoc]
  rfl
theorem nxF_end (m : Dfa) (n : Nat) : nxF m n m.next.length = canR m (n + 1) := by simp [nxF, canR]

theorem it_accepted (m : Dfa) (hm : m.wf) (T : Nat) (hT : T ≤ 10000000) (hTn : ∀ n, n < T → noneA m n ≤ m.next.length) :
    Iter Try.prog (.fn (.func 119) [] [.fptr [.int .i64 (m.k : Int), nrowsA m.next, boolsA m.good]]) (fun w => [.str w]) ((List.range T).flatMap (lenL m)) (decide (m.next.length < noneA m T)) := by
  intro γ I step go y g0 h0 hg0 hI0 hfin hy
  rw [ACallV_func]
  refine acalls_of Try.func119 rfl Try.call119 (by kernel_rfl) (by show _ ≤ (58 : Nat); simp) ?_
  have hn1 := hm.n1
  have hnm := hm.nmax
  have hk4 := hm.k4
  have hgne : m.good ≠ [] := by intro e; have := hm.gl; rw [e] at this; simp at this; omega
  simp
  refine (w_clone m.good hgne (by rw [hm.gl]; omega)).use ?_
  simp
  intro b1 hb1
  simp
  intro b3 hb3
  simp at hb3
  simp [hb3]
  intro b4 hb4
  simp at hb4
  simp [hb3, hb4]
  have hmemL : ∀ n, n < T → (List.range T).flatMap (lenL m) = (List.range n).flatMap (lenL m) ++ (lenL m n ++ ((List.range T).drop (n + 1)).flatMap (lenL m)) := by
    intro n hn
    have h1 : List.range T = List.range n ++ n :: (List.range T).drop (n + 1) := by
      have h2 : (List.range T).take n = List.range n := by rw [List.take_range]; congr 1; omega
      have h3 : (List.range T).drop n = n :: (List.range T).drop (n + 1) := by
        rw [List.drop_eq_getElem_cons (by simpa using hn)]; simp
      rw [← h2, ← h3, List.take_append_drop]
    conv => lhs; rw [h1]
    simp [List.flatMap_append]
  refine awp_loop_g (γ := Nat × γ × AHeap × Nat × Nat) (fun g t h => (g.1 ≤ T) ∧ (go g.2.1 = true) ∧ (I g.2.1 g.2.2.1) ∧ (Fresh g.2.2.1 b3 ∧ Fresh g.2.2.1 g.2.2.2.1 ∧ Fresh g.2.2.1 g.2.2.2.2 ∧ ¬ b3 = g.2.2.2.1 ∧ ¬ g.2.2.2.1 = b3 ∧ ¬ b3 = g.2.2.2.2 ∧ ¬ g.2.2.2.2 = b3 ∧ ¬ g.2.2.2.1 = g.2.2.2.2 ∧ ¬ g.2.2.2.2 = g.2.2.2.1) ∧ (runIt step go g0 ((List.range g.1).flatMap (lenL m)) = g.2.1) ∧ t 0 = y ∧ t 1 = .fptr [.int .i64 m.k, nrowsA m.next, boolsA m.good] ∧ t 3 = .ptr b3 0 ∧ t 4 = .ptr g.2.2.2.1 0 ∧ t 5 = .int .i64 (noneA m g.1) ∧ h = ((g.2.2.1.upd b3 (.cells [.osl g.2.2.2.2 0 (g.1 + 1) 1])).upd g.2.2.2.2 (.cells (canC m (g.1 + 1)))).upd g.2.2.2.1 (.cells [.int .i64 g.1])) (fun g => T - g.1) ((0, g0, h0, b4, b1)) (turnA_self (by simp [hg0, hI0, hb3, hb4, runIt, noneA, canC_one, hb1]; exact upd_comm3 (fun e => hb3.1 e.symm))) ?_
  rintro g t h ⟨hn, hgo, hI, hf, hrun, h0, h1, h3, h4, h5, rfl⟩
  obtain ⟨n, g, hi, b4', bc⟩ := g
  simp only at h0 h1 h3 h4 h5 hn hgo hI hf hrun
  by_cases hcont : noneA m n ≤ m.next.length
  · have hnT : n < T := by
      rcases Nat.lt_or_ge n T with h | h
      · exact h
      · have e : n = T := by omega
        subst e
        rw [hrun] at hfin
        rcases hfin with q | q
        · have := of_decide_eq_true q; omega
        · rw [hgo] at q; cases q
    have hlc := canR_len hm n
    have h0c : 0 < (canR m n).length := by omega
    have hrl : ((List.range (n + 1)).map (canR m)).length = n + 1 := by simp
    have hbit : (canR m n).getD 0 false = (canR m n)[0] := by simp [h0c]
    have hcontI : (noneA m n : Int) ≤ m.next.length := by omega
    have hwn : IntKind.i64.wrap ((noneA m n : Int) + 1) = (noneA m n : Int) + 1 := wrap_i64 (by omega) (by omega)
    have hnn : (n : Int) < n + 1 := by omega
    have hwn1 : IntKind.i64.wrap ((n : Int) + 1) = (n : Int) + 1 := wrap_i64 (by omega) (by omega)
    have hflat : (List.range (n + 1)).flatMap (lenL m) = (List.range n).flatMap (lenL m) ++ lenL m n := by rw [List.range_succ]; simp
    simp [h0, h1, h3, h4, h5, hf, hcontI, nrowsA, hwn, boolsA, h0c, hnn]
    refine condA_case ?_ ?_
    · intro hbt
      have hna : noneA m (n + 1) = 0 := by rw [noneA, hbit, hbt]; rfl
      have hlen1 : lenL m n = spellL m (cF ((List.range (n + 1)).map (canR m))) n 0 [] := by
        rw [lenL, hbit, hbt, if_pos rfl]
        refine spellL_congr m _ _ n 0 [] fun i hi => ?_
        simp [cF, show i < n + 1 from by omega]
      have hsplit := hmemL n hnT
      have hrun1 : runIt step go g0 ((List.range (n + 1)).flatMap (lenL m)) = runIt step go g (lenL m n) := by
        rw [hflat, runIt_on step go _ _ _ (by rw [hrun]; exact hgo), hrun]
      have c1 := w_spell m hm ((List.range (n + 1)).map (canR m)) (by simp; omega) (by intro r hr; obtain ⟨i, _, rfl⟩ := List.mem_map.1 hr; exact canR_len hm i) bc
        (fun g h => ∃ h1, h = ((h1.upd b3 (.cells [.osl bc 0 (n + 1) 1])).upd bc (.cells (canC m (n + 1)))).upd b4' (.cells [.int .i64 n]) ∧ Fresh h1 b3 ∧ Fresh h1 bc ∧ Fresh h1 b4' ∧ I g h1) step go y
        (by rintro g h ⟨h1, rfl, f1, f2, f3, _⟩ off; simp [hf, f1, f2, f3, canC])
        n (by simp) 0 (by omega) [] (by simp; omega) g (((hi.upd b3 (.cells [.osl bc 0 (n + 1) 1])).upd bc (.cells (canC m (n + 1)))).upd b4' (.cells [.int .i64 n])) hgo ⟨hi, rfl, hf.1, hf.2.2.1, hf.2.1, hI⟩
        (by
          rintro i gg a h ha hgg hgog ⟨h1, rfl, f1, f2, f3, hI1⟩
          rw [← hlen1] at ha hgg
          have hil : i < (lenL m n).length := by
            rcases Nat.lt_or_ge i (lenL m n).length with q | q
            · exact q
            · rw [List.getElem?_eq_none q] at ha; cases ha
          have c := hy (((List.range n).flatMap (lenL m)).length + i) gg a h1 (by rw [hsplit, List.getElem?_append_right (by omega), Nat.add_sub_cancel_left, List.getElem?_append_left hil]; exact ha)
            (by
              rw [hsplit, List.take_append, List.take_of_length_le (by omega), Nat.add_sub_cancel_left, List.take_append_of_le_length (by omega), List.foldl_append, hgg]
              have := runIt_go step go ((List.range n).flatMap (lenL m)) g0 (by rw [hrun]; exact hgo)
              rw [← this, hrun]) hgog hI1
          refine ACallV.mono (ACallV.keep (ACallV.keep (ACallV.keep c f1) (by simp [hf]; exact f2)) (by simp [hf]; exact f3)) ?_
          rintro r h' ⟨_, rfl, e3, _, rfl, e2, h2, rfl, e1, rfl, hI2⟩
          exact ⟨rfl, h2, rfl, e1, by have q := e2; simp [hf] at q; exact q, by have q := e3; simp [hf] at q; exact q, hI2⟩)
      rw [← hlen1] at c1
      simp [h0, h1, h3, h4, h5, hf, nrowsA]
      refine ACalls.mono (by simpa [Dfa.av, nrowsA, boolsA] using c1) ?_
      rintro q h' ⟨rfl, hi', rfl, f1, f2, f3, hI1⟩
      cases hgo1 : go (runIt step go g (lenL m n)) with
      | false =>
        have hfin2 : runIt step go g0 ((List.range T).flatMap (lenL m)) = runIt step go g (lenL m n) := by
          rw [hsplit, ← List.append_assoc, runIt_off step go _ _ _ hg0, ← hflat, hrun1]
          rw [← hflat, hrun1]; exact hgo1
        simp [h0, h1, h3, h4, h5]
        refine finA_same hi' ((((Drop.refl _).upd f1).upd f2).upd f3) ?_
        rw [hfin2]
        exact hI1
      | true =>
        have hf' : Fresh hi' b3 ∧ Fresh hi' b4' ∧ Fresh hi' bc ∧ ¬ b3 = b4' ∧ ¬ b4' = b3 ∧ ¬ b3 = bc ∧ ¬ bc = b3 ∧ ¬ b4' = bc ∧ ¬ bc = b4' := ⟨f1, f3, f2, hf.2.2.2⟩
        have hnr : nrowsA m.next = .sl m.next.length (m.next.map natsA) := rfl
        simp [h0, h1, h3, h4, h5, hf', nrowsA]
        have hgr : ∀ s (hs : s < m.next.length), m.next.getD s [] = m.next[s] := fun s hs => by simp [hs]
        simp [h0, h1, h3, h4, h5, hf', hna, nrowsA]
        refine ⟨by omega, ?_⟩
        intro b6 hb6
        simp at hb6
        simp [h0, h1, h3, h4, h5, hf', hna, hb6]
        refine awp_loop_t (γ := Nat) (fun s t h => (s ≤ m.next.length) ∧ t 0 = y ∧ t 1 = .fptr [.int .i64 m.k, nrowsA m.next, boolsA m.good] ∧ t 3 = .ptr b3 0 ∧ t 4 = .ptr b4' 0 ∧ t 5 = .int .i64 (noneA m (n + 1)) ∧ t 6 = .osl b6 0 m.next.length 1 ∧ t 39 = .sl m.next.length (m.next.map natsA) ∧ t 40 = .int .i64 m.next.length ∧ t 41 = .int .i64 s ∧ h = (((hi'.upd b3 (.cells [.osl bc 0 (n + 1) 1])).upd bc (.cells (canC m (n + 1)))).upd b4' (.cells [.int .i64 n])).upd b6 (.cells ((nxF m n s).map .bool))) (fun s => m.next.length - s) (0) (turnA_self (by simp [h0, h1, h3, h4, h5, hf', hna, nxF, nrowsA])) ?_
        rintro s t h ⟨hs, h0, h1, h3, h4, h5, h6, h39, h40, h41, rfl⟩
        have hnl := nxF_len m n s hs
        by_cases hlt : s < m.next.length
        · have hsucc := nxF_succ m n s hlt
          have hrow : m.next[s].length = m.k := hm.rl _ (List.getElem_mem hlt)
          rw [hgr s hlt] at hsucc
          have hw : IntKind.i64.wrap ((s : Int) + 1) = (s : Int) + 1 := wrap_i64 (by omega) (by omega)
          have hnI : natsA (m.next[s]'hlt) = intsA ((m.next[s]'hlt).map fun x : Nat => (x : Int)) := natsA_ints _
          have c1 := w_containsFunc ((m.next[s]'hlt).map fun x : Nat => (x : Int)) (by simp; omega) (.fn (.func 122) [] [.ptr b3 0, .ptr b4' 0]) (fun x => (canR m n).getD x.toNat false) ((((hi'.upd b3 (.cells [.osl bc 0 (n + 1) 1])).upd bc (.cells (canC m (n + 1)))).upd b4' (.cells [.int .i64 n])).upd b6 (.cells ((nxF m n s).map .bool)))
            (fun x hx => by
              obtain ⟨t, ht, rfl⟩ := List.mem_map.1 hx
              have ht2 := hm.lt _ (List.getElem_mem hlt) t ht
              have c := w_acc11 m hm ((((hi'.upd b3 (.cells [.osl bc 0 (n + 1) 1])).upd bc (.cells (canC m (n + 1)))).upd b4' (.cells [.int .i64 n])).upd b6 (.cells ((nxF m n s).map .bool))) b3 b4' bc n (by simp [hf', hna, hb6]) (by simp [hf', hna, hb6]) (by intro off; simp [hf', hna, hb6]) t ht2
              exact c)
          have hany : anyI ((m.next[s]'hlt).map fun x : Nat => (x : Int)) (fun x => (canR m n).getD x.toNat false) = (m.next[s]'hlt).any fun t => (canR m n).getD t false := by simp [anyI, Function.comp_def]
          rw [hany] at c1
          simp [h0, h1, h3, h4, h5, h6, h39, h40, h41, hlt, hf', hna, hb6, hnI]
          refine c1.use ?_
          simp [h0, h1, h3, h4, h5, h6, h39, h40, h41, hlt, hf', hna, hb6, hnl]
          exact ⟨by omega, turnA_self ⟨s + 1, by omega, by omega, by simp [h0, h1, h3, h4, h5, h6, h39, h40, h41, hf', hna, hw, hsucc, List.map_set, hnl, hlt]⟩⟩
        · obtain rfl : s = m.next.length := by omega
          simp [h0, h1, h3, h4, h5, h6, h39, h40, h41]
          refine turnA_row 6 b6 (n := m.next.length) (es := 1) (cs := (nxF m n m.next.length).map .bool) h6 (by simp) (by simp [hnl]) bools_frozen ?_
          have hrowA : AV.sl m.next.length ((nxF m n m.next.length).map .bool) = boolsA (canR m (n + 1)) := by rw [nxF_end]; simp [boolsA, canR_len hm]
          rw [hrowA]
          simp [h0, h1, h3, h4, h5, h6, h39, h40, h41, hf', hna, hb6]
          intro b7 hb7
          simp at hb7
          simp [h0, h1, h3, h4, h5, h6, h39, h40, h41, hf', hna, hb6, hb7]
          refine ⟨by omega, ?_⟩
          intro bc' hbc
          simp at hbc
          simp [h0, h1, h3, h4, h5, h6, h39, h40, h41, hf', hna, hb6, hb7, hbc]
          intro b4n hb4n
          simp at hb4n
          simp [h0, h1, h3, h4, h5, h6, h39, h40, h41, hf', hna, hb6, hb7, hbc, hb4n]
          refine turnA_to _ ((((Drop.refl (hi'.upd b3 (.cells [.osl bc' 0 (n + 1 + 1) 1]))).new (b := b4') (by simp [hf', hna])).new (b := b7) (by simp [hf', hna, hb7])).both.both) ?_
          exact ⟨n + 1, by omega, by omega, (runIt step go g (lenL m n)), hgo1, hi', hI1, b4n, bc', by simp [hf', hna, hb7, hbc, hb4n], hrun1, by simp [h0, h1, h3, h4, h5, h6, h39, h40, h41, hf', hna, hwn1, nrowsA, boolsA, canC_succ m (n + 1)]⟩
    · intro hbf
      have hna : noneA m (n + 1) = noneA m n + 1 := by rw [noneA, hbit, hbf]; rfl
      have hlen0 : lenL m n = [] := by rw [lenL, hbit, hbf]; rfl
      have hrun1 : runIt step go g0 ((List.range (n + 1)).flatMap (lenL m)) = g := by rw [hflat, hlen0, List.append_nil]; exact hrun
      have hgr : ∀ s (hs : s < m.next.length), m.next.getD s [] = m.next[s] := fun s hs => by simp [hs]
      simp [h0, h1, h3, h4, h5, hf, hna, nrowsA]
      refine ⟨by omega, ?_⟩
      intro b6 hb6
      simp at hb6
      simp [h0, h1, h3, h4, h5, hf, hna, hb6]
      refine awp_loop_t (γ := Nat) (fun s t h => (s ≤ m.next.length) ∧ t 0 = y ∧ t 1 = .fptr [.int .i64 m.k, nrowsA m.next, boolsA m.good] ∧ t 3 = .ptr b3 0 ∧ t 4 = .ptr b4' 0 ∧ t 5 = .int .i64 (noneA m (n + 1)) ∧ t 6 = .osl b6 0 m.next.length 1 ∧ t 39 = .sl m.next.length (m.next.map natsA) ∧ t 40 = .int .i64 m.next.length ∧ t 41 = .int .i64 s ∧ h = (((hi.upd b3 (.cells [.osl bc 0 (n + 1) 1])).upd bc (.cells (canC m (n + 1)))).upd b4' (.cells [.int .i64 n])).upd b6 (.cells ((nxF m n s).map .bool))) (fun s => m.next.length - s) (0) (turnA_self (by simp [h0, h1, h3, h4, h5, hf, hna, nxF, nrowsA])) ?_
      rintro s t h ⟨hs, h0, h1, h3, h4, h5, h6, h39, h40, h41, rfl⟩
      have hnl := nxF_len m n s hs
      by_cases hlt : s < m.next.length
      · have hsucc := nxF_succ m n s hlt
        have hrow : m.next[s].length = m.k := hm.rl _ (List.getElem_mem hlt)
        rw [hgr s hlt] at hsucc
        have hw : IntKind.i64.wrap ((s : Int) + 1) = (s : Int) + 1 := wrap_i64 (by omega) (by omega)
        have hnI : natsA (m.next[s]'hlt) = intsA ((m.next[s]'hlt).map fun x : Nat => (x : Int)) := natsA_ints _
        have c1 := w_containsFunc ((m.next[s]'hlt).map fun x : Nat => (x : Int)) (by simp; omega) (.fn (.func 122) [] [.ptr b3 0, .ptr b4' 0]) (fun x => (canR m n).getD x.toNat false) ((((hi.upd b3 (.cells [.osl bc 0 (n + 1) 1])).upd bc (.cells (canC m (n + 1)))).upd b4' (.cells [.int .i64 n])).upd b6 (.cells ((nxF m n s).map .bool)))
          (fun x hx => by
            obtain ⟨t, ht, rfl⟩ := List.mem_map.1 hx
            have ht2 := hm.lt _ (List.getElem_mem hlt) t ht
            have c := w_acc11 m hm ((((hi.upd b3 (.cells [.osl bc 0 (n + 1) 1])).upd bc (.cells (canC m (n + 1)))).upd b4' (.cells [.int .i64 n])).upd b6 (.cells ((nxF m n s).map .bool))) b3 b4' bc n (by simp [hf, hna, hb6]) (by simp [hf, hna, hb6]) (by intro off; simp [hf, hna, hb6]) t ht2
            exact c)
        have hany : anyI ((m.next[s]'hlt).map fun x : Nat => (x : Int)) (fun x => (canR m n).getD x.toNat false) = (m.next[s]'hlt).any fun t => (canR m n).getD t false := by simp [anyI, Function.comp_def]
        rw [hany] at c1
        simp [h0, h1, h3, h4, h5, h6, h39, h40, h41, hlt, hf, hna, hb6, hnI]
        refine c1.use ?_
        simp [h0, h1, h3, h4, h5, h6, h39, h40, h41, hlt, hf, hna, hb6, hnl]
        exact ⟨by omega, turnA_self ⟨s + 1, by omega, by omega, by simp [h0, h1, h3, h4, h5, h6, h39, h40, h41, hf, hna, hw, hsucc, List.map_set, hnl, hlt]⟩⟩
      · obtain rfl : s = m.next.length := by omega
        simp [h0, h1, h3, h4, h5, h6, h39, h40, h41]
        refine turnA_row 6 b6 (n := m.next.length) (es := 1) (cs := (nxF m n m.next.length).map .bool) h6 (by simp) (by simp [hnl]) bools_frozen ?_
        have hrowA : AV.sl m.next.length ((nxF m n m.next.length).map .bool) = boolsA (canR m (n + 1)) := by rw [nxF_end]; simp [boolsA, canR_len hm]
        rw [hrowA]
        simp [h0, h1, h3, h4, h5, h6, h39, h40, h41, hf, hna, hb6]
        intro b7 hb7
        simp at hb7
        simp [h0, h1, h3, h4, h5, h6, h39, h40, h41, hf, hna, hb6, hb7]
        refine ⟨by omega, ?_⟩
        intro bc' hbc
        simp at hbc
        simp [h0, h1, h3, h4, h5, h6, h39, h40, h41, hf, hna, hb6, hb7, hbc]
        intro b4n hb4n
        simp at hb4n
        simp [h0, h1, h3, h4, h5, h6, h39, h40, h41, hf, hna, hb6, hb7, hbc, hb4n]
        refine turnA_to _ ((((Drop.refl (hi.upd b3 (.cells [.osl bc' 0 (n + 1 + 1) 1]))).new (b := b4') (by simp [hf, hna])).new (b := b7) (by simp [hf, hna, hb7])).both.both) ?_
        exact ⟨n + 1, by omega, by omega, g, hgo, hi, hI, b4n, bc', by simp [hf, hna, hb7, hbc, hb4n], hrun1, by simp [h0, h1, h3, h4, h5, h6, h39, h40, h41, hf, hna, hwn1, nrowsA, boolsA, canC_succ m (n + 1)]⟩
  · have hcontI : ¬ (noneA m n : Int) ≤ m.next.length := by omega
    have hTn' : n = T := by
      rcases Nat.lt_or_ge n T with h | h
      · exact absurd (hTn n h) hcont
      · omega
    subst hTn'
    simp [h0, h1, h3, h4, h5, hcontI, nrowsA]
    refine finA_same hi ((((Drop.refl _).upd hf.1).upd hf.2.2.1).upd hf.2.1) ?_
    rw [hrun]; exact hI
end Go.Proofs

end

section
/-! # word: Words. -/
set_option maxRecDepth 100000
set_option maxHeartbeats 4000000
namespace Go.Proofs
open Go Go.AH

theorem w_accepted (m : Dfa) : Pure Try.prog 68 [m.av] (.fn (.func 119) [] [.fptr [.int .i64 (m.k : Int), nrowsA m.next, boolsA m.good]]) := by
  refine pure_of (acalls_of Try.func68 rfl Try.call68 (by kernel_rfl) (by show _ ≤ (4 : Nat); simp) ?_)
  simp [Dfa.av]
  intro b1 hb1
  simp
  refine finA_all 2 ?_
  simp

/-! ### How far one must look -/
def uptoL (m : Dfa) (T : Nat) : List (List UInt8) := (List.range T).flatMap (lenL m)
theorem uptoL_succ (m : Dfa) (T : Nat) : uptoL m (T + 1) = uptoL m T ++ lenL m T := by simp [uptoL, List.range_succ]
def tF (m : Dfa) (most : Nat) : Nat → Nat → Nat
  | 0, T => T
  | f + 1, T => if m.next.length < noneA m T ∨ most ≤ (uptoL m T).length then T else tF m most f (T + 1)
def tEnd (m : Dfa) (most : Nat) : Nat := tF m most (most * (m.next.length + 1)) 0
def wordsF (m : Dfa) (most : Nat) : List (List UInt8) := (uptoL m (tEnd m most)).take most

theorem spellL_ne (m : Dfa) (hm : m.wf) : ∀ (n s : Nat) (r : List UInt8), s < m.next.length → (canR m n).getD s false = true → spellL m (canR m) n s r ≠ []
  | 0, s, r, hs, h => by simp [spellL]
  | n + 1, s, r, hs, h => by
    simp only [canR] at h
    have hrow : (m.next.getD s []).length = m.k := by rw [List.getD_eq_getElem?_getD, List.getElem?_eq_getElem hs]; exact hm.rl _ (List.getElem_mem hs)
    have hlt : ∀ t ∈ m.next.getD s [], t < m.next.length := by
      intro t ht; rw [List.getD_eq_getElem?_getD, List.getElem?_eq_getElem hs] at ht; exact hm.lt _ (List.getElem_mem hs) t ht
    rw [List.getD_eq_getElem?_getD, List.getElem?_map, List.getElem?_range hs] at h
    simp only [Option.map_some, Option.getD_some, List.any_eq_true] at h
    obtain ⟨t, ht, hc⟩ := h
    obtain ⟨i, hi, hti⟩ := List.mem_iff_getElem.1 ht
    rw [hrow] at hi
    have hgd : (m.next.getD s []).getD i 0 = t := by rw [List.getD_eq_getElem?_getD, List.getElem?_eq_getElem (by omega)]; exact hti
    intro e
    simp only [spellL, List.flatMap_eq_nil_iff] at e
    have := e i (List.mem_range.2 hi)
    rw [hgd, hc, if_pos rfl] at this
    exact spellL_ne m hm n t _ (hlt t ht) hc this

theorem pot (m : Dfa) (hm : m.wf) : ∀ T, (∀ n, n < T → noneA m n ≤ m.next.length) → T ≤ (uptoL m T).length * (m.next.length + 1) + noneA m T
  | 0, _ => by simp
  | T + 1, h => by
    have ih := pot m hm T fun n hn => h n (by omega)
    have hT := h T (by omega)
    rw [uptoL_succ, List.length_append, noneA]
    cases hc : (canR m T).getD 0 false with
    | true =>
      have h1 : lenL m T ≠ [] := by rw [lenL, hc, if_pos rfl]; exact spellL_ne m hm T 0 [] (by have := hm.n1; omega) hc
      have h2 : 1 ≤ (lenL m T).length := by rcases hl : lenL m T with _ | ⟨a, l⟩; exact absurd hl h1; simp
      simp only [if_pos]
      have h3 : ((uptoL m T).length + 1) * (m.next.length + 1) ≤ ((uptoL m T).length + (lenL m T).length) * (m.next.length + 1) := Nat.mul_le_mul_right _ (by omega)
      rw [Nat.add_mul] at h3
      omega
    | false =>
      have h3 : (uptoL m T).length * (m.next.length + 1) ≤ ((uptoL m T).length + (lenL m T).length) * (m.next.length + 1) := Nat.mul_le_mul_right _ (by omega)
      simp only [Bool.false_eq_true, if_false]
      omega

theorem tF_spec (m : Dfa) (hm : m.wf) (most : Nat) : ∀ (f T : Nat), (∀ n, n < T → noneA m n ≤ m.next.length ∧ (uptoL m n).length < most) → most * (m.next.length + 1) ≤ f + T →
    (∀ n, n < tF m most f T → noneA m n ≤ m.next.length ∧ (uptoL m n).length < most) ∧ (m.next.length < noneA m (tF m most f T) ∨ most ≤ (uptoL m (tF m most f T)).length) ∧ tF m most f T ≤ f + T
  | 0, T, h, hf => by
    refine ⟨h, ?_, by simp [tF]⟩
    simp only [tF]
    have hp := pot m hm T fun n hn => (h n hn).1
    rcases Nat.lt_or_ge (uptoL m T).length most with q | q
    · left
      have h3 : ((uptoL m T).length + 1) * (m.next.length + 1) ≤ most * (m.next.length + 1) := Nat.mul_le_mul_right _ (by omega)
      rw [Nat.add_mul] at h3
      omega
    · exact .inr q
  | f + 1, T, h, hf => by
    simp only [tF]
    split
    · next q => exact ⟨h, q, by omega⟩
    · next q =>
      simp only [not_or, Nat.not_lt, Nat.not_le] at q
      have := tF_spec m hm most f (T + 1) (fun n hn => by
        rcases Nat.lt_or_ge n T with x | x
        · exact h n x
        · obtain rfl : n = T := by omega
          exact q) (by omega)
      exact ⟨this.1, this.2.1, by have := this.2.2; omega⟩
theorem tEnd_spec (m : Dfa) (hm : m.wf) (most : Nat) : (∀ n, n < tEnd m most → noneA m n ≤ m.next.length ∧ (uptoL m n).length < most) ∧ (m.next.length < noneA m (tEnd m most) ∨ most ≤ (uptoL m (tEnd m most)).length) ∧ tEnd m most ≤ most * (m.next.length + 1) := by
  have := tF_spec m hm most (most * (m.next.length + 1)) 0 (by intro n hn; omega) (by omega)
  simpa [tEnd] using this

theorem runIt_take {α : Type} (N : Nat) (hN : 0 < N) : ∀ (L g : List α), g.length < N → runIt (fun g x => g ++ [x]) (fun g => decide (g.length ≠ N)) g L = (g ++ L).take N
  | [], g, h => by simp [runIt, List.take_of_length_le (Nat.le_of_lt h)]
  | x :: L, g, h => by
    simp only [runIt]
    by_cases q : g.length + 1 = N
    · have : (decide ((g ++ [x]).length ≠ N)) = false := by simp [q]
      rw [if_neg (by simp [q])]
      rw [show g ++ x :: L = (g ++ [x]) ++ L by simp, List.take_append_of_le_length (by simp; omega), List.take_of_length_le (by simp; omega)]
    · rw [if_pos (by simp [q]), runIt_take N hN L (g ++ [x]) (by simp; omega)]
      simp

def ownS (l : List (List UInt8)) : AV := if l = [] then .nilsl else strsA l
theorem w_Words (m : Dfa) (hm : m.ok) (most : Int) (h1 : 1 ≤ most) (h2 : most ≤ 1000) : Pure Try.prog 20 [m.av, .int .i64 most] (.tup [ownS (wordsF (leastF m) most.toNat), .int .i64 0]) := by
  refine pure_of (acalls_of Try.func20 rfl Try.call20 (by kernel_rfl) (by show _ ≤ (34 : Nat); simp) ?_)
  obtain ⟨N, rfl⟩ : ∃ N : Nat, most = N := ⟨most.toNat, by omega⟩
  have c1 := w_check m hm
  have c2 := w_of m
  have c3 := w_leastP hm.wf
  have hl := least_wf hm.wf
  have hl64 : (leastF m).next.length ≤ 64 := Nat.le_trans (least_n hm.wf) hm.n64
  have c4 := w_accepted (leastF m)
  have e1 : ¬ (N : Int) < 1 := by omega
  have e2 : ¬ (1000 : Int) < N := by omega
  simp only [Dfa.av] at c1 c2 c3 c4 ⊢
  simp
  intro b2 hb2
  simp
  intro b3 hb3
  simp at hb3
  simp [hb3]
  refine c1.use ?_
  simp [e1, e2, hb3]
  intro b7 hb7
  simp at hb7
  simp [hb7, hb3]
  refine c2.use ?_
  simp
  refine c3.use ?_
  simp
  refine c4.use ?_
  simp
  obtain ⟨t1, t2, t3⟩ := tEnd_spec (leastF m) hl N
  have hW : wordsF (leastF m) N = (uptoL (leastF m) (tEnd (leastF m) N)).take N := rfl
  generalize tEnd (leastF m) N = T at t1 t2 t3 hW
  have hT : T ≤ 10000000 := by
    have : N * ((leastF m).next.length + 1) ≤ 1000 * 65 := Nat.mul_le_mul (by omega) (by omega)
    omega
  have hr := runIt_take N (by omega) (uptoL (leastF m) T) ([] : List (List UInt8)) (by simp; omega)
  have hgo : (fun g : List (List UInt8) => ((if g.length = N then some (Exit.exit 0) else none : Option Exit)).isNone) = fun g => decide (g.length ≠ N) := by
    funext g; by_cases q : g.length = N <;> simp [q]
  refine awp_iter (L := uptoL (leastF m) T) (by simp) (it_accepted (leastF m) hl T hT fun n hn => (t1 n hn).1) (fun (g : List (List UInt8)) h => g.length ≤ N ∧ ∃ o : Option Nat, (o = none → g = []) ∧ (∀ b, o = some b → ¬ g = [] ∧ Fresh AHeap.empty b ∧ ¬ b = b2 ∧ ¬ b2 = b ∧ ¬ b = b3 ∧ ¬ b3 = b ∧ ¬ b = b7 ∧ ¬ b7 = b) ∧
      h = (((AHeap.empty.upd b2 (.cells [.int .i64 (m.k : Int), nrowsA m.next, boolsA m.good])).upd b3 (.cells [.int .i64 N])).upd b7 (.cells [ownV o g.length 1])).updO o (g.map .str))
    (fun g x => g ++ [x]) (fun g => if g.length = N then some (Exit.exit 0) else none) [] (by simp; omega) ⟨by simp, none, by simp⟩ (by kernel_rfl) (by kernel_rfl) (by simp) (by intro a _; simp) ?_ ?_ ?_ ?_
  · rw [hgo, hr]
    rcases t2 with q | q
    · left; simp [q]
    · right; simp; omega
  · rintro l i g w h ha hgi hj ⟨hg, o, ho, hf, rfl⟩
    have hgN : g.length ≠ N := by intro q; simp [q] at hj
    have hgN' : (g.length : Int) + 1 = N ↔ g.length + 1 = N := by omega
    rcases o with _ | b
    · obtain rfl := ho rfl
      simp [putsA, hb7, hb3]
      intro b2' hb2'
      simp at hb2'
      simp [hb2', hb7, hb3]
      intro b3' hb3'
      simp at hb3'
      simp [hb2', hb3', hb7, hb3]
      have hdr : ∀ h2, h2 = (((((AHeap.empty.upd b2 (.cells [.int .i64 (m.k : Int), nrowsA m.next, boolsA m.good])).upd b3 (.cells [.int .i64 N])).upd b7 (.cells [.osl b3' 0 1 1])).upd b2' (.cells [.str w])).upd b3' (.cells [.str w])) → Drop h2 ((((AHeap.empty.upd b2 (.cells [.int .i64 (m.k : Int), nrowsA m.next, boolsA m.good])).upd b3 (.cells [.int .i64 N])).upd b7 (.cells [.osl b3' 0 1 1])).upd b3' (.cells ([.str w]))) := by
        rintro h2 rfl
        refine Drop.both (Drop.new (Drop.refl _) ?_)
        simp [hb2']
      refine condA_case ?_ ?_
      · intro q
        simp at q
        have q' : N = 1 := by omega
        subst q'
        simp
        exact ⟨_, hdr _ rfl, some b3', by simp, by simp [hb3']⟩
      · intro q
        simp at q
        have q' : ¬ 1 = N := by omega
        simp [q']
        exact ⟨_, hdr _ rfl, by omega, some b3', by simp, by simp [hb3']⟩
    · have hf1 := hf b rfl
      simp [putsA, hb7, hb3, hf1]
      intro b2' hb2'
      simp at hb2'
      simp [hb2', hb7, hb3, hf1]
      refine ⟨by omega, ?_⟩
      intro b3' hb3'
      simp at hb3'
      simp [hb2', hb3', hb7, hb3, hf1]
      have hdr : ∀ n h2, h2 = (((((AHeap.empty.upd b2 (.cells [.int .i64 (m.k : Int), nrowsA m.next, boolsA m.good])).upd b3 (.cells [.int .i64 N])).upd b7 (.cells [.osl b3' 0 n 1])).upd b2' (.cells [.str w])).upd b3' (.cells (g.map .str ++ [.str w]))) → Drop h2 ((((AHeap.empty.upd b2 (.cells [.int .i64 (m.k : Int), nrowsA m.next, boolsA m.good])).upd b3 (.cells [.int .i64 N])).upd b7 (.cells [.osl b3' 0 n 1])).upd b3' (.cells (g.map .str ++ [.str w]))) := by
        rintro n h2 rfl
        refine Drop.both (Drop.new (Drop.refl _) ?_)
        simp [hb2']
      refine condA_case ?_ ?_
      · intro q
        simp at q
        have q' : g.length + 1 = N := by omega
        simp [q']
        exact ⟨_, hdr _ _ rfl, some b3', by simp, by simp [hb3']⟩
      · intro q
        simp at q
        have q' : ¬ g.length + 1 = N := by omega
        simp [q']
        exact ⟨_, hdr _ _ rfl, by omega, some b3', by simp, by simp [hb3']⟩
  · intro g e he
    by_cases q : g.length = N
    · rw [if_pos q] at he; cases he; exact .inr ⟨_, rfl⟩
    · rw [if_neg q] at he; cases he
  · rintro h' ⟨hg, o, ho, hf, rfl⟩
    rw [hgo, hr] at hg ho ⊢
    simp only [List.nil_append, ← hW] at hg ho ⊢
    have hend : blockA = blockA := rfl
    by_cases q : (wordsF (leastF m) N).length = N
    all_goals
      simp [q]
      rcases o with _ | b
      · have e := ho rfl
        simp [e, hb7, ownS]
        exact finA_self rfl
      · have hf1 := hf b rfl
        have hne : ¬ wordsF (leastF m) N = [] := by have := hf1.1; rw [hgo, hr] at this; simpa only [List.nil_append, ← hW] using this
        simp [hb7, hf1, ownS, hne]
        refine finA_all 2 ?_
        simp [hf1, strsA, q, hg, List.take_of_length_le]
end Go.Proofs

end
