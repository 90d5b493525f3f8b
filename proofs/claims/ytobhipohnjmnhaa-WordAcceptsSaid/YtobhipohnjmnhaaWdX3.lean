/-
  Walk: the law WordAccepts.
-/
import Derived.Test.YtobhipohnjmnhaaWdAcc2
import Derived.Test.YtobhipohnjmnhaaWdAw2
set_option linter.unusedSimpArgs false
set_option linter.unusedVariables false
set_option linter.unusedSectionVars false
namespace Go.Proofs
open Go Go.AH
set_option maxRecDepth 10000
set_option maxHeartbeats 4000000

theorem w_WordAccepts (a : RAuto) (hs : a.sized) (w : List UInt8) (hw : w.length ≤ 4611686018427387904) : Pure Try.prog 5 [a.av, .str w] (.bool true) := by
  refine pure_of (acalls_of Try.func5 rfl Try.call5 (by kernel_rfl) (by show _ ≤ (52 : Nat); simp) ?_)
  obtain ⟨hl1, hl4⟩ := letters_bd a.letters
  have cl := w_letters a.letters
  obtain ⟨K, hK⟩ : ∃ K : Nat, lettersF a.letters = K := ⟨(lettersF a.letters).toNat, by omega⟩
  rw [hK] at cl hl1 hl4
  have ct := w_tame a hs K 12 (by omega) (by omega) (by omega)
  have hmok := tame_ok a K 12 (by omega) (by omega) (by omega)
  have hmk : (tameF a K 12).k = K := rfl
  generalize tameF a K 12 = m at ct hmok hmk
  have hmw := hmok.wf
  have ha : a.av = .agg [.int .i64 a.letters, rowsA a.next, boolsA a.good] := rfl
  rw [ha] at ct ⊢
  have cg := w_give (m.k : Int) (nrowsA m.next) (boolsA m.good) (by simp) (by simp) (by simp) (by simp) (by simp) (by simp)
  simp
  intro b2 hb2
  simp
  refine awp_draw_text (by kernel_rfl) [13, 14] [(.fn (.func 16) [] [], [.int .i64 a.letters], .int .i64 K), (.fn (.func 15) [] [], [.agg [.int .i64 a.letters, rowsA a.next, boolsA a.good], .int .i64 K, .int .i64 12], m.av)] (by kernel_rfl) (by kernel_rfl) (by simp; exact ⟨PureV.of cl, PureV.of ct⟩) ?_
  simp [Dfa.av]
  intro b5 hb5
  simp at hb5
  simp [hb5]
  refine awp_loop_g (γ := Nat × List UInt8) (fun g t h => (g.1 ≤ 2) ∧ (g.2.length ≤ 4611686018427387904) ∧ t 1 = .str g.2 ∧ t 5 = .ptr b5 0 ∧ t 6 = .int .i64 g.1 ∧ h = (AHeap.empty.upd b2 (.cells [.int .i64 a.letters, rowsA a.next, boolsA a.good])).upd b5 (.cells [.int .i64 m.k, nrowsA m.next, boolsA m.good])) (fun g => 2 - g.1) ((0, w)) (turnA_self (by simp [hw])) ?_
  rintro g t h ⟨hk, hwl, h1, h5, h6, rfl⟩
  clear hw w
  obtain ⟨k, w⟩ := g
  simp only at h1 h5 h6 hk hwl
  by_cases hlt : k < 2
  · have hltI : (k : Int) < 2 := by omega
    have hw : IntKind.i64.wrap ((k : Int) + 1) = (k : Int) + 1 := wrap_i64 (by omega) (by omega)
    have c1 := w_Accepts m hmok w hwl
    have c2 := w_refWord m.k hmok.k4 w hwl
    have c4 := w_text w hwl m.k 60 hmok.k1 hmok.k4 (by omega)
    have htl := textF_len m.k 60 w
    simp only [Dfa.av] at c1
    simp [h1, h5, h6, hltI, hlt, hb5]
    refine cg.use ?_
    simp [h1, h5, h6]
    refine c1.use ?_
    unfold acceptsA
    rcases wordErr_cases m.k w with e | e | e
    · obtain ⟨hg, hl⟩ := not_bad e
      have c3 := w_refAccepts m hmw w hwl hg
      simp only [Dfa.av] at c3
      simp [h1, h5, h6, e, hb5]
      refine c2.use ?_
      simp [h1, h5, h6, e, hb5]
      refine c3.use ?_
      simp [h1, h5, h6, e, hb5]
      refine c4.use ?_
      simp [h1, h5, h6]
      exact turnA_self ⟨k + 1, by omega, by omega, textF m.k 60 w, by omega, by simp [h1, h5, h6, hw]⟩
    · simp [h1, h5, h6, e, hb5]
      refine c2.use ?_
      simp [h1, h5, h6, e, hb5]
      refine c4.use ?_
      simp [h1, h5, h6]
      exact turnA_self ⟨k + 1, by omega, by omega, textF m.k 60 w, by omega, by simp [h1, h5, h6, hw]⟩
    · simp [h1, h5, h6, e, hb5]
      refine c2.use ?_
      simp [h1, h5, h6, e, hb5]
      refine c4.use ?_
      simp [h1, h5, h6]
      exact turnA_self ⟨k + 1, by omega, by omega, textF m.k 60 w, by omega, by simp [h1, h5, h6, hw]⟩
  · obtain rfl : k = 2 := by omega
    simp [h1, h5, h6]
    refine w_awake.use ?_
    simp
    exact finA_drop rfl
end Go.Proofs
