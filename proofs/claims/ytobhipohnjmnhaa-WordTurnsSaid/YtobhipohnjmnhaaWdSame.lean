/-
  Walks: whether two automata are the same.
-/
import Derived.Test.YtobhipohnjmnhaaV3
import Derived.Test.YtobhipohnjmnhaaV1
set_option linter.unusedSimpArgs false
set_option linter.unusedVariables false
set_option linter.unusedSectionVars false
namespace Go.Proofs
open Go Go.AH
set_option maxRecDepth 10000
set_option maxHeartbeats 4000000

theorem dfa_ext {M N : Dfa} (hM : M.wf) (hN : N.wf) (hk : M.k = N.k) (hn : M.next.length = N.next.length) (h : ∀ s, s < M.next.length → M.good.getD s false = N.good.getD s false ∧ ∀ i, i < M.k → nx M s i = nx N s i) : M = N := by
  have h1 : M.next = N.next := by
    refine List.ext_getElem hn fun s h1 h2 => ?_
    have r1 := hM.rl _ (List.getElem_mem h1); have r2 := hN.rl _ (List.getElem_mem h2)
    refine List.ext_getElem (by omega) fun i h3 h4 => ?_
    have := (h s h1).2 i (by omega)
    simpa [nx, h1, h2, h3, h4] using this
  have h2 : M.good = N.good := by
    refine List.ext_getElem (by rw [hM.gl, hN.gl, hn]) fun s h1 h2 => ?_
    have := (h s (by rw [← hM.gl]; exact h1)).1
    simpa [h1, h2] using this
  cases M; cases N; simp_all

theorem w_same (M N : Dfa) (hM : M.wf) (hN : N.wf) : Pure Try.prog 27 [M.av, N.av] (.bool (@decide (M = N) (Classical.propDecidable _))) := by
  refine pure_of (acalls_of Try.func27 rfl Try.call27 (by kernel_rfl) (by show _ ≤ (90 : Nat); simp) ?_)
  have hne : ∀ {x : Prop}, (M = N → x) → ¬ x → @decide (M = N) (Classical.propDecidable _) = false := fun {x} h hx => by
    rw [decide_eq_false_iff_not]; exact fun e => hx (h e)
  simp [Dfa.av]
  intro b2 hb2
  simp
  intro b3 hb3
  simp at hb3
  simp [hb3, nrowsA, boolsA]
  by_cases hk : M.k = N.k
  · by_cases hn : M.next.length = N.next.length
    · have hg : M.good.length = N.good.length := by rw [hM.gl, hN.gl, hn]
      have hkI : (M.k : Int) = N.k := by omega
      simp [hk, hn, hg, hb3]
      refine awp_loop_g (γ := Nat) (fun s t h => (s ≤ N.next.length) ∧ (∀ r, r < s → M.good.getD r false = N.good.getD r false ∧ ∀ i, i < M.k → nx M r i = nx N r i) ∧ t 2 = .ptr b2 0 ∧ t 3 = .ptr b3 0 ∧ t 5 = .int .i64 s ∧ h = ((AHeap.empty.upd b2 (.cells [.int .i64 N.k, .sl N.next.length (M.next.map natsA), .sl N.good.length (M.good.map .bool)])).upd b3 (.cells [.int .i64 N.k, .sl N.next.length (N.next.map natsA), .sl N.good.length (N.good.map .bool)]))) (fun s => N.next.length - s) (0) (turnA_self (by simp)) ?_
      rintro s t h ⟨hs, hall, h2, h3, h5, rfl⟩
      by_cases hlt : s < N.next.length
      · have hltM : s < M.next.length := by omega
        have r1 : M.next[s].length = M.k := hM.rl _ (List.getElem_mem hltM)
        have r2 : N.next[s].length = N.k := hN.rl _ (List.getElem_mem hlt)
        have g1 : s < M.good.length := by rw [hM.gl]; exact hltM
        have g2 : s < N.good.length := by rw [hN.gl]; exact hlt
        have hw : IntKind.i64.wrap ((s : Int) + 1) = (s : Int) + 1 := wrap_i64 (by have := hN.nmax; omega) (by have := hN.nmax; omega)
        simp [h2, h3, h5, hlt, hb3]
        refine awp_draw_text (by kernel_rfl) [] [] (by kernel_rfl) (by kernel_rfl) (by simp) ?_
        by_cases hgg : M.good[s] = N.good[s]
        · simp [h2, h3, h5, hb3, hlt, hltM, hn, natsA, r1, r2, hk, g1, g2, hgg]
          have hrow : M.next[s].map (fun x : Nat => AV.int .i64 (x : Int)) = M.next[s].map (fun x : Nat => AV.int .i64 (x : Int)) := rfl
          refine awp_loop_g (γ := Nat) (fun i t h => (i ≤ N.k) ∧ (∀ j, j < i → nx M s j = nx N s j) ∧ t 2 = .ptr b2 0 ∧ t 3 = .ptr b3 0 ∧ t 5 = .int .i64 s ∧ t 6 = .int .i64 i ∧ h = ((AHeap.empty.upd b2 (.cells [.int .i64 N.k, .sl N.next.length (M.next.map natsA), .sl N.good.length (M.good.map .bool)])).upd b3 (.cells [.int .i64 N.k, .sl N.next.length (N.next.map natsA), .sl N.good.length (N.good.map .bool)]))) (fun i => N.k - i) (0) (turnA_self (by simp [h2, h3, h5])) ?_
          rintro i t h ⟨hi, hrow, h2, h3, h5, h6, rfl⟩
          by_cases hlti : i < N.k
          · have hwi : IntKind.i64.wrap ((i : Int) + 1) = (i : Int) + 1 := wrap_i64 (by have := hN.k4; omega) (by have := hN.k4; omega)
            have hi1 : i < M.next[s].length := by omega
            have hi2 : i < N.next[s].length := by omega
            have e1 : nx M s i = M.next[s][i] := by simp [nx, hltM, hi1]
            have e2 : nx N s i = N.next[s][i] := by simp [nx, hlt, hi2]
            simp [h2, h3, h5, h6, hb3, hlt, hltM, hn, natsA, r1, r2, hk, hlti]
            refine awp_draw_text (by kernel_rfl) [] [] (by kernel_rfl) (by kernel_rfl) (by simp) ?_
            by_cases hv : M.next[s][i] = N.next[s][i]
            · simp [h2, h3, h5, h6, hb3, hlt, hltM, hn, natsA, r1, r2, hk, hlti, hv]
              refine turnA_self ⟨i + 1, by omega, by omega, fun j hj => ?_, by simp [h2, h3, h5, h6, hwi]⟩
              by_cases e : j = i
              · subst e; rw [e1, e2, hv]
              · exact hrow j (by omega)
            · have hvI : ¬ (M.next[s][i] : Int) = N.next[s][i] := by omega
              simp [h2, h3, h5, h6, hb3, hlt, hltM, hn, natsA, r1, r2, hk, hlti, hv, hvI]
              refine finA_drop ?_
              rw [hne (x := nx M s i = nx N s i) (fun e => by rw [e]) (by rw [e1, e2]; exact hv)]
          · obtain rfl : i = N.k := by omega
            simp [h2, h3, h5, h6, hb3, hlt, hltM, hn, natsA, r1, r2, hk]
            refine turnA_self ⟨s + 1, by omega, by omega, fun r hr => ?_, by simp [h2, h3, h5, h6, hw]⟩
            by_cases e : r = s
            · subst e
              exact ⟨by simp [g1, g2, hgg], fun i hi => hrow i (by omega)⟩
            · have := hall r (by omega)
              simpa [hk] using this
        · have hgb : (M.good[s] == N.good[s]) = false := by simp [hgg]
          simp [h2, h3, h5, hb3, hlt, hltM, hn, natsA, r1, r2, hk, g1, g2, hgb]
          refine finA_drop ?_
          rw [hne (x := M.good.getD s false = N.good.getD s false) (fun e => by rw [e]) (by simp [g1, g2, hgg])]
      · obtain rfl : s = N.next.length := by omega
        have heq : M = N := dfa_ext hM hN hk hn fun s hs => hall s (by omega)
        simp [h2, h3, h5, hb3]
        exact finA_drop (by subst heq; simp)
    · have hnI : ¬ (M.next.length : Int) = N.next.length := by omega
      simp [hk, hn, hnI, hb3]
      exact finA_drop (by rw [hne (fun e => by rw [e]) hn])
  · have hkI : ¬ (M.k : Int) = N.k := by omega
    simp [hk, hkI, hb3]
    exact finA_drop (by rw [hne (fun e => by rw [e]) hk])

theorem w_alike (M N : Dfa) (hM : M.wf) (hN : N.wf) : Pure Try.prog 39 [M.av, N.av] (.bool (@decide (M = N) (Classical.propDecidable _))) := by
  refine pure_of (acalls_of Try.func39 rfl Try.call39 (by kernel_rfl) (by show _ ≤ (14 : Nat); simp) ?_)
  have c := w_same M N hM hN
  simp only [Dfa.av] at c ⊢
  simp
  intro b2 hb2
  simp
  intro b3 hb3
  simp at hb3
  simp [hb3]
  refine c.use ?_
  simp
  exact finA_drop rfl
end Go.Proofs
