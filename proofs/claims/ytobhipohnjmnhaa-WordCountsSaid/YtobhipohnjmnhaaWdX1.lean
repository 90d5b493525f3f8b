/-
  Walk: the law WordCounts.
-/
import Derived.Test.YtobhipohnjmnhaaWdR3
import Derived.Test.YtobhipohnjmnhaaWdP3
set_option linter.unusedSimpArgs false
set_option linter.unusedVariables false
set_option linter.unusedSectionVars false
namespace Go.Proofs
open Go Go.AH
set_option maxRecDepth 10000
set_option maxHeartbeats 4000000

theorem w_WordCounts (hawake : Pure Try.prog 22 [] (.bool true)) (a : RAuto) (hs : a.sized) (n most : Int) (hn1 : -9223372036854775808 ≤ n) (hn2 : n ≤ 9223372036854775807) (hm1 : -9223372036854775808 ≤ most) (hm2 : most ≤ 9223372036854775807) :
    Pure Try.prog 3 [a.av, .int .i64 n, .int .i64 most] (.bool true) := by
  refine pure_of (acalls_of Try.func3 rfl Try.call3 (by kernel_rfl) (by show _ ≤ (110 : Nat); simp) ?_)
  obtain ⟨hl1, hl4⟩ := letters_bd a.letters
  have cl := w_letters a.letters
  obtain ⟨K, hK⟩ : ∃ K : Nat, lettersF a.letters = K := ⟨(lettersF a.letters).toNat, by omega⟩
  rw [hK] at cl hl1 hl4
  have ct := w_tame a hs K 10 (by omega) (by omega) (by omega)
  have hmok := tame_ok a K 10 (by omega) (by omega) (by omega)
  generalize tameF a K 10 = m at ct hmok
  have hmw := hmok.wf
  have ha : a.av = .agg [.int .i64 a.letters, rowsA a.next, boolsA a.good] := rfl
  rw [ha] at ct ⊢
  have cg := w_give (m.k : Int) (nrowsA m.next) (boolsA m.good) (by simp) (by simp) (by simp) (by simp) (by simp) (by simp)
  simp
  intro b3 hb3
  simp
  refine awp_draw_text (by kernel_rfl) [19, 20] [(.fn (.func 16) [] [], [.int .i64 a.letters], .int .i64 K), (.fn (.func 15) [] [], [.agg [.int .i64 a.letters, rowsA a.next, boolsA a.good], .int .i64 K, .int .i64 10], m.av)] (by kernel_rfl) (by kernel_rfl) (by simp; exact ⟨PureV.of cl, PureV.of ct⟩) ?_
  simp [Dfa.av]
  intro b7 hb7
  simp at hb7
  simp [hb7]
  refine cg.use ?_
  simp
  intro b8 hb8
  simp at hb8
  simp [hb7, hb8]
  refine awp_loop_g (γ := Nat × Int × Int) (fun g t h => (g.1 ≤ 2) ∧ t 1 = .int .i64 g.2.1 ∧ t 2 = .int .i64 g.2.2 ∧ t 7 = .ptr b7 0 ∧ t 8 = .ptr b8 0 ∧ t 9 = .int .i64 g.1 ∧ h = ((AHeap.empty.upd b3 (.cells [.int .i64 a.letters, rowsA a.next, boolsA a.good])).upd b7 (.cells [.int .i64 m.k, nrowsA m.next, boolsA m.good])).upd b8 (.cells [.int .i64 m.k, nrowsA m.next, boolsA m.good])) (fun g => 2 - g.1) ((0, n, most)) (turnA_self (by simp)) ?_
  rintro g t h ⟨hk, h1, h2, h7, h8, h9, rfl⟩
  clear hn1 hn2 hm1 hm2 n most
  obtain ⟨k, n, most⟩ := g
  simp only at h1 h2 h7 h8 h9 hk
  by_cases hlt : k < 2
  · have hltI : (k : Int) < 2 := by omega
    have hw : IntKind.i64.wrap ((k : Int) + 1) = (k : Int) + 1 := wrap_i64 (by omega) (by omega)
    by_cases e1 : n < 0
    · have cc := w_Count_bad m hmok n (.inl e1)
      simp only [Dfa.av] at cc
      simp [h1, h2, h7, h8, h9, hltI, hlt, hb7, hb8]
      refine cc.use ?_
      simp [h1, h2, h7, h8, h9, e1, hb7, hb8]
      by_cases f1 : most < 1
      · have cw := w_Words_bad m hmok most (.inl f1)
        simp only [Dfa.av] at cw
        refine cw.use ?_
        simp [h1, h2, h7, h8, h9, e1, hb7, hb8, f1]
        exact turnA_self ⟨k + 1, by omega, by omega, by simp [h1, h2, h7, h8, h9, hw]⟩
      · by_cases f2 : 1000 < most
        · have cw := w_Words_bad m hmok most (.inr f2)
          simp only [Dfa.av] at cw
          refine cw.use ?_
          simp [h1, h2, h7, h8, h9, e1, hb7, hb8, f1, f2]
          exact turnA_self ⟨k + 1, by omega, by omega, by simp [h1, h2, h7, h8, h9, hw]⟩
        · obtain ⟨M, rfl⟩ : ∃ M : Nat, most = M := ⟨most.toNat, by omega⟩
          have cw := w_Words m hmok M (by omega) (by omega)
          have cr := w_refWords m hmok M (by omega) (by omega)
          have hWl : (wordsF m M).length ≤ M := by unfold wordsF; rw [List.length_take]; omega
          rw [Int.toNat_natCast, words_least hmw] at cw
          simp only [Dfa.av] at cw cr
          refine cw.use ?_
          simp [h1, h2, h7, h8, h9, e1, hb7, hb8, f1, f2]
          refine cr.use ?_
          generalize wordsF m M = W at hWl
          by_cases hW : W = []
          · simp [h1, h2, h7, h8, h9, ownS, hW]
            refine awp_loop_g (γ := Nat) (fun i t h => (i = 0) ∧ t 7 = .ptr b7 0 ∧ t 8 = .ptr b8 0 ∧ t 9 = .int .i64 k ∧ t 1 = .int .i64 n ∧ t 2 = .int .i64 M ∧ t 12 = .nilsl ∧ t 14 = .nilsl ∧ t 15 = .int .i64 i ∧ h = ((AHeap.empty.upd b3 (.cells [.int .i64 a.letters, rowsA a.next, boolsA a.good])).upd b7 (.cells [.int .i64 m.k, nrowsA m.next, boolsA m.good])).upd b8 (.cells [.int .i64 m.k, nrowsA m.next, boolsA m.good])) (fun i => 0) (0) (turnA_self (by simp [h1, h2, h7, h8, h9])) ?_
            rintro i t h ⟨hi, h7, h8, h9, h1, h2, h12, h14, h15, rfl⟩
            subst hi
            simp [h7, h8, h9, h1, h2, h12, h14, h15]
            exact turnA_self ⟨k + 1, by omega, by omega, by simp [h7, h8, h9, h1, h2, h12, h14, h15, hw]⟩
          · simp [h1, h2, h7, h8, h9, ownS, strsA, hW]
            refine awp_loop_g (γ := Nat) (fun i t h => (i ≤ W.length) ∧ t 7 = .ptr b7 0 ∧ t 8 = .ptr b8 0 ∧ t 9 = .int .i64 k ∧ t 1 = .int .i64 n ∧ t 2 = .int .i64 M ∧ t 12 = .sl W.length (W.map .str) ∧ t 14 = .sl W.length (W.map .str) ∧ t 15 = .int .i64 i ∧ h = ((AHeap.empty.upd b3 (.cells [.int .i64 a.letters, rowsA a.next, boolsA a.good])).upd b7 (.cells [.int .i64 m.k, nrowsA m.next, boolsA m.good])).upd b8 (.cells [.int .i64 m.k, nrowsA m.next, boolsA m.good])) (fun i => W.length - i) (0) (turnA_self (by simp [h1, h2, h7, h8, h9])) ?_
            rintro i t h ⟨hi, h7, h8, h9, h1, h2, h12, h14, h15, rfl⟩
            by_cases hil : i < W.length
            · have hwi : IntKind.i64.wrap ((i : Int) + 1) = (i : Int) + 1 := wrap_i64 (by omega) (by omega)
              simp [h7, h8, h9, h1, h2, h12, h14, h15, hil]
              refine awp_draw_text (by kernel_rfl) [] [] (by kernel_rfl) (by kernel_rfl) (by simp) ?_
              simp [h7, h8, h9, h1, h2, h12, h14, h15, hil]
              exact turnA_self ⟨i + 1, by omega, by omega, by simp [h7, h8, h9, h1, h2, h12, h14, h15, hwi]⟩
            · obtain rfl : i = W.length := by omega
              simp [h7, h8, h9, h1, h2, h12, h14, h15]
              exact turnA_self ⟨k + 1, by omega, by omega, by simp [h7, h8, h9, h1, h2, h12, h14, h15, hw]⟩
    · by_cases e2 : 30 < n
      · have cc := w_Count_bad m hmok n (.inr e2)
        simp only [Dfa.av] at cc
        simp [h1, h2, h7, h8, h9, hltI, hlt, hb7, hb8]
        refine cc.use ?_
        simp [h1, h2, h7, h8, h9, e1, e2, hb7, hb8]
        by_cases f1 : most < 1
        · have cw := w_Words_bad m hmok most (.inl f1)
          simp only [Dfa.av] at cw
          refine cw.use ?_
          simp [h1, h2, h7, h8, h9, e1, e2, hb7, hb8, f1]
          exact turnA_self ⟨k + 1, by omega, by omega, by simp [h1, h2, h7, h8, h9, hw]⟩
        · by_cases f2 : 1000 < most
          · have cw := w_Words_bad m hmok most (.inr f2)
            simp only [Dfa.av] at cw
            refine cw.use ?_
            simp [h1, h2, h7, h8, h9, e1, e2, hb7, hb8, f1, f2]
            exact turnA_self ⟨k + 1, by omega, by omega, by simp [h1, h2, h7, h8, h9, hw]⟩
          · obtain ⟨M, rfl⟩ : ∃ M : Nat, most = M := ⟨most.toNat, by omega⟩
            have cw := w_Words m hmok M (by omega) (by omega)
            have cr := w_refWords m hmok M (by omega) (by omega)
            have hWl : (wordsF m M).length ≤ M := by unfold wordsF; rw [List.length_take]; omega
            rw [Int.toNat_natCast, words_least hmw] at cw
            simp only [Dfa.av] at cw cr
            refine cw.use ?_
            simp [h1, h2, h7, h8, h9, e1, e2, hb7, hb8, f1, f2]
            refine cr.use ?_
            generalize wordsF m M = W at hWl
            by_cases hW : W = []
            · simp [h1, h2, h7, h8, h9, ownS, hW]
              refine awp_loop_g (γ := Nat) (fun i t h => (i = 0) ∧ t 7 = .ptr b7 0 ∧ t 8 = .ptr b8 0 ∧ t 9 = .int .i64 k ∧ t 1 = .int .i64 n ∧ t 2 = .int .i64 M ∧ t 12 = .nilsl ∧ t 14 = .nilsl ∧ t 15 = .int .i64 i ∧ h = ((AHeap.empty.upd b3 (.cells [.int .i64 a.letters, rowsA a.next, boolsA a.good])).upd b7 (.cells [.int .i64 m.k, nrowsA m.next, boolsA m.good])).upd b8 (.cells [.int .i64 m.k, nrowsA m.next, boolsA m.good])) (fun i => 0) (0) (turnA_self (by simp [h1, h2, h7, h8, h9])) ?_
              rintro i t h ⟨hi, h7, h8, h9, h1, h2, h12, h14, h15, rfl⟩
              subst hi
              simp [h7, h8, h9, h1, h2, h12, h14, h15]
              exact turnA_self ⟨k + 1, by omega, by omega, by simp [h7, h8, h9, h1, h2, h12, h14, h15, hw]⟩
            · simp [h1, h2, h7, h8, h9, ownS, strsA, hW]
              refine awp_loop_g (γ := Nat) (fun i t h => (i ≤ W.length) ∧ t 7 = .ptr b7 0 ∧ t 8 = .ptr b8 0 ∧ t 9 = .int .i64 k ∧ t 1 = .int .i64 n ∧ t 2 = .int .i64 M ∧ t 12 = .sl W.length (W.map .str) ∧ t 14 = .sl W.length (W.map .str) ∧ t 15 = .int .i64 i ∧ h = ((AHeap.empty.upd b3 (.cells [.int .i64 a.letters, rowsA a.next, boolsA a.good])).upd b7 (.cells [.int .i64 m.k, nrowsA m.next, boolsA m.good])).upd b8 (.cells [.int .i64 m.k, nrowsA m.next, boolsA m.good])) (fun i => W.length - i) (0) (turnA_self (by simp [h1, h2, h7, h8, h9])) ?_
              rintro i t h ⟨hi, h7, h8, h9, h1, h2, h12, h14, h15, rfl⟩
              by_cases hil : i < W.length
              · have hwi : IntKind.i64.wrap ((i : Int) + 1) = (i : Int) + 1 := wrap_i64 (by omega) (by omega)
                simp [h7, h8, h9, h1, h2, h12, h14, h15, hil]
                refine awp_draw_text (by kernel_rfl) [] [] (by kernel_rfl) (by kernel_rfl) (by simp) ?_
                simp [h7, h8, h9, h1, h2, h12, h14, h15, hil]
                exact turnA_self ⟨i + 1, by omega, by omega, by simp [h7, h8, h9, h1, h2, h12, h14, h15, hwi]⟩
              · obtain rfl : i = W.length := by omega
                simp [h7, h8, h9, h1, h2, h12, h14, h15]
                exact turnA_self ⟨k + 1, by omega, by omega, by simp [h7, h8, h9, h1, h2, h12, h14, h15, hw]⟩
      · obtain ⟨N, rfl⟩ : ∃ N : Nat, n = N := ⟨n.toNat, by omega⟩
        have cc := w_Count m hmok N (by omega)
        have cr := w_refCount m hmok N (by omega)
        rw [counts m hmw N] at cr
        simp only [Dfa.av] at cc cr
        simp [h1, h2, h7, h8, h9, hltI, hlt, hb7, hb8]
        refine cc.use ?_
        simp [h1, h2, h7, h8, h9, e1, e2, hb7, hb8]
        refine cr.use ?_
        simp [h1, h2, h7, h8, h9, e1, e2, hb7, hb8]
        by_cases f1 : most < 1
        · have cw := w_Words_bad m hmok most (.inl f1)
          simp only [Dfa.av] at cw
          refine cw.use ?_
          simp [h1, h2, h7, h8, h9, e1, e2, hb7, hb8, f1]
          exact turnA_self ⟨k + 1, by omega, by omega, by simp [h1, h2, h7, h8, h9, hw]⟩
        · by_cases f2 : 1000 < most
          · have cw := w_Words_bad m hmok most (.inr f2)
            simp only [Dfa.av] at cw
            refine cw.use ?_
            simp [h1, h2, h7, h8, h9, e1, e2, hb7, hb8, f1, f2]
            exact turnA_self ⟨k + 1, by omega, by omega, by simp [h1, h2, h7, h8, h9, hw]⟩
          · obtain ⟨M, rfl⟩ : ∃ M : Nat, most = M := ⟨most.toNat, by omega⟩
            have cw := w_Words m hmok M (by omega) (by omega)
            have cr := w_refWords m hmok M (by omega) (by omega)
            have hWl : (wordsF m M).length ≤ M := by unfold wordsF; rw [List.length_take]; omega
            rw [Int.toNat_natCast, words_least hmw] at cw
            simp only [Dfa.av] at cw cr
            refine cw.use ?_
            simp [h1, h2, h7, h8, h9, e1, e2, hb7, hb8, f1, f2]
            refine cr.use ?_
            generalize wordsF m M = W at hWl
            by_cases hW : W = []
            · simp [h1, h2, h7, h8, h9, ownS, hW]
              refine awp_loop_g (γ := Nat) (fun i t h => (i = 0) ∧ t 7 = .ptr b7 0 ∧ t 8 = .ptr b8 0 ∧ t 9 = .int .i64 k ∧ t 1 = .int .i64 N ∧ t 2 = .int .i64 M ∧ t 12 = .nilsl ∧ t 14 = .nilsl ∧ t 15 = .int .i64 i ∧ h = ((AHeap.empty.upd b3 (.cells [.int .i64 a.letters, rowsA a.next, boolsA a.good])).upd b7 (.cells [.int .i64 m.k, nrowsA m.next, boolsA m.good])).upd b8 (.cells [.int .i64 m.k, nrowsA m.next, boolsA m.good])) (fun i => 0) (0) (turnA_self (by simp [h1, h2, h7, h8, h9])) ?_
              rintro i t h ⟨hi, h7, h8, h9, h1, h2, h12, h14, h15, rfl⟩
              subst hi
              simp [h7, h8, h9, h1, h2, h12, h14, h15]
              exact turnA_self ⟨k + 1, by omega, by omega, by simp [h7, h8, h9, h1, h2, h12, h14, h15, hw]⟩
            · simp [h1, h2, h7, h8, h9, ownS, strsA, hW]
              refine awp_loop_g (γ := Nat) (fun i t h => (i ≤ W.length) ∧ t 7 = .ptr b7 0 ∧ t 8 = .ptr b8 0 ∧ t 9 = .int .i64 k ∧ t 1 = .int .i64 N ∧ t 2 = .int .i64 M ∧ t 12 = .sl W.length (W.map .str) ∧ t 14 = .sl W.length (W.map .str) ∧ t 15 = .int .i64 i ∧ h = ((AHeap.empty.upd b3 (.cells [.int .i64 a.letters, rowsA a.next, boolsA a.good])).upd b7 (.cells [.int .i64 m.k, nrowsA m.next, boolsA m.good])).upd b8 (.cells [.int .i64 m.k, nrowsA m.next, boolsA m.good])) (fun i => W.length - i) (0) (turnA_self (by simp [h1, h2, h7, h8, h9])) ?_
              rintro i t h ⟨hi, h7, h8, h9, h1, h2, h12, h14, h15, rfl⟩
              by_cases hil : i < W.length
              · have hwi : IntKind.i64.wrap ((i : Int) + 1) = (i : Int) + 1 := wrap_i64 (by omega) (by omega)
                simp [h7, h8, h9, h1, h2, h12, h14, h15, hil]
                refine awp_draw_text (by kernel_rfl) [] [] (by kernel_rfl) (by kernel_rfl) (by simp) ?_
                simp [h7, h8, h9, h1, h2, h12, h14, h15, hil]
                exact turnA_self ⟨i + 1, by omega, by omega, by simp [h7, h8, h9, h1, h2, h12, h14, h15, hwi]⟩
              · obtain rfl : i = W.length := by omega
                simp [h7, h8, h9, h1, h2, h12, h14, h15]
                exact turnA_self ⟨k + 1, by omega, by omega, by simp [h7, h8, h9, h1, h2, h12, h14, h15, hw]⟩
  · obtain rfl : k = 2 := by omega
    simp [h1, h2, h7, h8, h9]
    refine hawake.use ?_
    simp
    exact finA_self rfl
end Go.Proofs
