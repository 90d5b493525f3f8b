/-
  Walk: the reference's first word, and the law WordLeasts.
-/
import Derived.Test.YtobhipohnjmnhaaWdRC
import Derived.Test.YtobhipohnjmnhaaWdFst
import Derived.Test.YtobhipohnjmnhaaWdSame
import Derived.Test.YtobhipohnjmnhaaWdAw2
set_option linter.unusedSimpArgs false
set_option linter.unusedVariables false
set_option linter.unusedSectionVars false
namespace Go.Proofs
open Go Go.AH
set_option maxRecDepth 10000
set_option maxHeartbeats 4000000

def nilM (k : Nat) : Dfa := ⟨k, [List.replicate k 0], [false]⟩
theorem nil_ok {k : Nat} (h1 : 1 ≤ k) (h4 : k ≤ 4) : (nilM k).ok :=
  ⟨h1, h4, by simp [nilM], by simp [nilM], by simp [nilM], by intro r hr; simp [nilM] at hr; subst hr; simp [nilM], by
    intro r hr x hx; simp [nilM] at hr; subst hr; have := List.eq_of_mem_replicate hx; simp [nilM, this]⟩
theorem nil_go (k : Nat) : ∀ w, goW (nilM k) 0 w = 0
  | [] => rfl
  | i :: w => by
    have : nx (nilM k) 0 i = 0 := by
      simp only [nx, nilM, List.getD_cons_zero]
      by_cases h : i < k
      · simp [List.getD_eq_getElem?_getD, h]
      · rw [List.getD_eq_getElem?_getD, List.getElem?_eq_none (by simpa using h)]; rfl
    show goW (nilM k) (nx (nilM k) 0 i) w = 0
    rw [this]; exact nil_go k w
theorem w_refNothing (k : Nat) (h4 : k ≤ 4) : Pure Try.prog 74 [.int .i64 k] (nilM k).av := by
  refine pure_of (acalls_of Try.func74 rfl Try.call74 (by kernel_rfl) (by show _ ≤ (9 : Nat); simp) ?_)
  simp
  intro b2 hb2
  simp
  refine ⟨by omega, ?_⟩
  intro c1 hc1
  simp at hc1
  simp [hc1]
  intro c2 hc2
  simp at hc2
  simp [hc2]
  intro c3 hc3
  simp at hc3
  simp [hc1, hc2, hc3]
  refine finA_all 3 ?_
  simp [nilM, Dfa.av, nrowsA, natsA, boolsA, hc1, hc2, hc3, List.take_of_length_le]
theorem refFirst_eq {m : Dfa} (hm : m.ok) : firstF (prodF m (nilM m.k) ⟨0, 0⟩ (· != ·)) = firstF (leastF m) := by
  have hn := nil_ok hm.k1 hm.k4
  have hs : (Tw.mk 0 0).a < m.next.length ∧ (Tw.mk 0 0).b < (nilM m.k).next.length := ⟨by have := hm.n1; simp only; omega, by simp [nilM]⟩
  have hz : m.next.length * (nilM m.k).next.length ≤ 1000000 := by have := hm.n64; simp [nilM]; omega
  have c := least_canon hm.wf
  refine first_lang (prod_wf hm.wf hn.wf rfl ⟨0, 0⟩ hs hz _) (least_wf hm.wf) (prod_bf hm.wf hn.wf rfl ⟨0, 0⟩ hs _) c.bf (by rw [prod_k, least_k hm.wf]) fun w hw => ?_
  rw [prod_k] at hw
  rw [prod_acc hm.wf hn.wf rfl ⟨0, 0⟩ hs _ w hw, least_acc hm.wf w hw, nil_go]
  simp [nilM, accW]
theorem w_refFirst (m : Dfa) (hm : m.ok) : Pure Try.prog 29 [m.av] (match firstF (leastF m) with | some w => .tup [.str w, .bool true] | none => .tup [.str [], .bool false]) := by
  refine pure_of (acalls_of Try.func29 rfl Try.call29 (by kernel_rfl) (by show _ ≤ (11 : Nat); simp) ?_)
  have c1 := w_refNothing m.k hm.k4
  have c2 := w_refDiffer m (nilM m.k) hm (nil_ok hm.k1 hm.k4) rfl
  rw [refFirst_eq hm] at c2
  generalize firstF (leastF m) = D at c2 ⊢
  obtain ⟨nx0, hnx0⟩ : ∃ v, v = (nilM m.k).av := ⟨_, rfl⟩
  rw [← hnx0] at c1 c2
  replace c2 : AH.Pure Try.prog 35 [m.av, nx0] (.tup [.str (D.getD []), .bool D.isSome]) := by cases D <;> exact c2
  simp only [Dfa.av] at c2 ⊢
  simp
  intro b1 hb1
  simp
  refine awp_draw_text (by kernel_rfl) [7, 8] [(.fn (.func 74) [] [], [.int .i64 m.k], nx0), (.fn (.func 35) [] [], [.agg [.int .i64 (m.k : Int), nrowsA m.next, boolsA m.good], nx0], .tup [.str (D.getD []), .bool D.isSome])] (by kernel_rfl) (by kernel_rfl) (by simp; exact ⟨PureV.of c1, PureV.of c2⟩) ?_
  simp
  cases D with
  | none => simp; exact finA_drop rfl
  | some w => simp; exact finA_drop rfl

theorem strs_get {l : List (List UInt8)} {i : Nat} (h : i < l.length) : ((l.map AV.str).drop i).head? = some (.str l[i]) := by simp [List.getElem?_eq_getElem h]
theorem w_WordLeasts (a : RAuto) (hs : a.sized) : Pure Try.prog 4 [a.av] (.bool true) := by
  refine pure_of (acalls_of Try.func4 rfl Try.call4 (by kernel_rfl) (by show _ ≤ (100 : Nat); simp) ?_)
  obtain ⟨hl1, hl4⟩ := letters_bd a.letters
  have cl := w_letters a.letters
  obtain ⟨K, hK⟩ : ∃ K : Nat, lettersF a.letters = K := ⟨(lettersF a.letters).toNat, by omega⟩
  rw [hK] at cl hl1 hl4
  have ct := w_tame a hs K 20 (by omega) (by omega) (by omega)
  have hmok := tame_ok a K 20 (by omega) (by omega) (by omega)
  have hmk : (tameF a K 20).k = K := rfl
  generalize tameF a K 20 = m at ct hmok hmk
  have hmw := hmok.wf
  have ha : a.av = .agg [.int .i64 a.letters, rowsA a.next, boolsA a.good] := rfl
  rw [ha] at ct ⊢
  have cg := w_give (m.k : Int) (nrowsA m.next) (boolsA m.good) (by simp) (by simp) (by simp) (by simp) (by simp) (by simp)
  have can := least_canon hmw
  have hln := least_n hmw
  have h64 : ¬ 64 < (leastF m).next.length := by have := hmok.n64; omega
  have cL := w_Least m hmok
  rw [if_neg h64] at cL
  have cC := w_Classes m hmok
  have cF := w_First m hmok
  have rC := w_refClasses m hmw
  have rL := w_refLeast m hmw
  have rF := w_refFirst m hmok
  have hcl := classes_len (leastF m)
  generalize classesF (leastF m) = cs at cC rC hcl
  generalize firstF (leastF m) = D at cF rF
  have hW := can.wf
  obtain ⟨M, hM⟩ : ∃ M, M = leastF m := ⟨_, rfl⟩
  rw [← hM] at cL rL hW hln hcl
  have cS := w_same M M hW hW
  rw [show (@decide (M = M) (Classical.propDecidable _)) = true from by simp] at cS
  have hMn := hW.nmax
  clear can hM
  obtain ⟨gI, hgI⟩ : ∃ gI : Int, gI = if D.isSome then 0 else 4 := ⟨_, rfl⟩
  replace cF : AH.Pure Try.prog 25 [m.av] (.tup [.str (D.getD []), .int .i64 gI]) := by rw [hgI]; cases D <;> exact cF
  replace rF : AH.Pure Try.prog 29 [m.av] (.tup [.str (D.getD []), .bool D.isSome]) := by cases D <;> exact rF
  simp only [Dfa.av] at *
  simp
  intro b1 hb1
  simp
  refine awp_draw_text (by kernel_rfl) [18, 19] [(.fn (.func 16) [] [], [.int .i64 a.letters], .int .i64 K), (.fn (.func 15) [] [], [.agg [.int .i64 a.letters, rowsA a.next, boolsA a.good], .int .i64 K, .int .i64 20], .agg [.int .i64 m.k, nrowsA m.next, boolsA m.good])] (by kernel_rfl) (by kernel_rfl) (by simp; exact ⟨PureV.of cl, PureV.of ct⟩) ?_
  simp
  intro b3 hb3
  simp at hb3
  simp [hb3]
  refine cg.use ?_
  simp [hb3]
  intro b4 hb4
  simp at hb4
  simp [hb4, hb3]
  refine cL.use ?_
  simp [hb4, hb3]
  intro b5 hb5
  simp at hb5
  simp [hb5, hb4, hb3]
  refine cC.use ?_
  simp [hb5, hb4, hb3]
  refine cF.use ?_
  simp [hb5, hb4, hb3]
  refine rC.use ?_
  simp [hb5, hb4, hb3]
  refine awp_draw_text (by kernel_rfl) [48, 49] [(.fn (.func 28) [] [], [.agg [.int .i64 (m.k : Int), nrowsA m.next, boolsA m.good]], .agg [.int .i64 (M.k : Int), nrowsA M.next, boolsA M.good]), (.fn (.func 27) [] [], [.agg [.int .i64 (M.k : Int), nrowsA M.next, boolsA M.good], .agg [.int .i64 (M.k : Int), nrowsA M.next, boolsA M.good]], .bool true)] (by kernel_rfl) (by kernel_rfl) (by simp; exact ⟨PureV.of rL, PureV.of cS⟩) ?_
  simp [hb5, hb4, hb3, strsA]
  have hwm := w_awake
  refine awp_loop_g (γ := Nat) (fun i t h => (i ≤ cs.length) ∧ t 3 = .ptr b3 0 ∧ t 7 = .sl cs.length (cs.map .str) ∧ t 9 = .str (D.getD []) ∧ t 10 = .int .i64 gI ∧ t 11 = .sl cs.length (cs.map .str) ∧ t 12 = .int .i64 i ∧ h = (((AHeap.empty.upd b1 (.cells [.int .i64 a.letters, rowsA a.next, boolsA a.good])).upd b3 (.cells [.int .i64 (m.k : Int), nrowsA m.next, boolsA m.good])).upd b4 (.cells [.int .i64 (m.k : Int), nrowsA m.next, boolsA m.good])).upd b5 (.cells [.int .i64 (M.k : Int), nrowsA M.next, boolsA M.good])) (fun i => cs.length - i) (0) (turnA_self (by simp)) ?_
  rintro i t h ⟨hi, h3, h7, h9, h10, h11, h12, rfl⟩
  by_cases hlt : i < cs.length
  · have hw : IntKind.i64.wrap ((i : Int) + 1) = (i : Int) + 1 := wrap_i64 (by omega) (by omega)
    simp [h3, h7, h9, h10, h11, h12, hlt]
    refine awp_draw_text (by kernel_rfl) [] [] (by kernel_rfl) (by kernel_rfl) (by simp) ?_
    simp [h3, h7, h9, h10, h11, h12, hlt]
    exact turnA_self ⟨i + 1, by omega, by omega, by simp [h3, h7, h9, h10, h11, h12, hw]⟩
  · obtain rfl : i = cs.length := by omega
    simp [h3, h7, h9, h10, h11, h12, hb5, hb4, hb3]
    refine rF.use ?_
    cases D with
    | none =>
      simp [h3, h7, h9, h10, h11, h12] at hgI ⊢
      subst hgI
      simp [h3, h7, h9, h10, h11, h12]
      refine hwm.use ?_
      simp
      exact finA_drop rfl
    | some w =>
      simp [h3, h7, h9, h10, h11, h12] at hgI ⊢
      subst hgI
      simp [h3, h7, h9, h10, h11, h12]
      refine hwm.use ?_
      simp
      exact finA_drop rfl
end Go.Proofs
