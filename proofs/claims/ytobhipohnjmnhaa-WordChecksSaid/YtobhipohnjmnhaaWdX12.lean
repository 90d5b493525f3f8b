/-
  Walk: the law WordChecks.
-/
import Derived.Test.YtobhipohnjmnhaaWdCk2
import Derived.Test.YtobhipohnjmnhaaWdCk3
import Derived.Test.YtobhipohnjmnhaaV10
import Derived.Test.YtobhipohnjmnhaaWdSet
import Derived.Test.YtobhipohnjmnhaaV6
set_option linter.unusedSimpArgs false
set_option linter.unusedVariables false
set_option linter.unusedSectionVars false
namespace Go.Proofs
open Go Go.AH
set_option maxRecDepth 10000
set_option maxHeartbeats 4000000

/-- What becomes of two: an automaton, a number. -/
theorem keptA_shape (M : Dfa) : ∃ (l : Int) (v g : AV) (e : Int), keptA M = .tup [.agg [.int .i64 l, v, g], .int .i64 e] ∧ (v.one = true ∧ v.fit = true ∧ v.cells = [v]) ∧ g.one = true ∧ g.fit = true ∧ g.cells = [g] := by
  unfold keptA
  split
  · exact ⟨0, .nilsl, .nilsl, 21, rfl, ⟨rfl, rfl, rfl⟩, rfl, rfl, rfl⟩
  · exact ⟨M.k, nrowsA M.next, boolsA M.good, 0, rfl, ⟨by simp, by simp, by simp⟩, by simp, by simp, by simp⟩
theorem keptO_shape (o : Option Dfa) : ∃ (l : Int) (v g : AV) (e : Int), keptO o = .tup [.agg [.int .i64 l, v, g], .int .i64 e] ∧ (v.one = true ∧ v.fit = true ∧ v.cells = [v]) ∧ g.one = true ∧ g.fit = true ∧ g.cells = [g] := by
  unfold keptO
  split
  · exact ⟨0, .nilsl, .nilsl, 21, rfl, ⟨rfl, rfl, rfl⟩, rfl, rfl, rfl⟩
  · exact keptA_shape _
theorem chkV_vals (k : Int) (rows : List (List Int)) (good : List Bool) : chkV k rows good = 0 ∨ chkV k rows good = 1 ∨ chkV k rows good = 20 := by
  unfold chkV
  repeat' split
  all_goals simp

theorem w_WordChecks (a b : RAuto) (hs : a.sized) (hsb : b.sized) : Pure Try.prog 14 [a.av, b.av] (.bool true) := by
  refine pure_of (acalls_of Try.func14 rfl Try.call14 (by kernel_rfl) (by show _ ≤ (282 : Nat); simp) ?_)
  have cr := l_raw a hs
  have rl := rawR_len a
  have rr := rawR_row a
  have rg := rawG_len a
  have cw := w_CheckV a.letters (rawR a) (rawG a) (by omega) (fun r hr => by have := rr r hr; omega) (by omega)
  have cf := r_CheckV a.letters (rawR a) (rawG a) (by omega) (fun r hr => by have := rr r hr; omega) (by omega)
  have hko := chkV_ok (k := a.letters) (rows := rawR a) (good := rawG a)
  obtain ⟨e, he⟩ : ∃ e, e = chkV a.letters (rawR a) (rawG a) := ⟨_, rfl⟩
  have hev := chkV_vals a.letters (rawR a) (rawG a)
  rw [← he] at cw cf hko hev
  obtain ⟨V, hV⟩ : ∃ V, V = rowsL (rawR a) := ⟨_, rfl⟩
  obtain ⟨W, hW⟩ : ∃ W, W = listB (rawG a) := ⟨_, rfl⟩
  have hV1 : V.one = true := by rw [hV]; simp
  have hV2 : V.fit = true := by rw [hV]; simp
  have hV3 : V.cells = [V] := by rw [hV]; simp
  have hW1 : W.one = true := by rw [hW]; simp
  have hW2 : W.fit = true := by rw [hW]; simp
  have hW3 : W.cells = [W] := by rw [hW]; simp
  unfold autoV at cr cw cf hko
  rw [← hV, ← hW] at cr cw cf hko
  have cg := w_give a.letters V W hV1 hW1 hV2 hW2 hV3 hW3
  obtain ⟨K, hK⟩ : ∃ K : Nat, 1 + (IntKind.u64.wrap b.letters) % 4 = K := ⟨(1 + (IntKind.u64.wrap b.letters) % 4).toNat, by have := u64_nonneg b.letters; omega⟩
  have hK1 : 1 ≤ K := by have := u64_nonneg b.letters; omega
  have hK4 : K ≤ 4 := by have := u64_nonneg b.letters; omega
  have ct := w_tame b hsb K 5 hK1 hK4 (by omega)
  have hok2 := tame_ok b K 5 hK1 hK4 (by omega)
  have hk2 : (tameF b K 5).k = K := rfl
  generalize tameF b K 5 = m2 at ct hok2 hk2
  obtain ⟨V', hV'⟩ : ∃ V, V = nrowsA m2.next := ⟨_, rfl⟩
  obtain ⟨W', hW'⟩ : ∃ W, W = boolsA m2.good := ⟨_, rfl⟩
  have hV1' : V'.one = true := by rw [hV']; simp
  have hV2' : V'.fit = true := by rw [hV']; simp
  have hV3' : V'.cells = [V'] := by rw [hV']; simp
  have hW1' : W'.one = true := by rw [hW']; simp
  have hW2' : W'.fit = true := by rw [hW']; simp
  have hW3' : W'.cells = [W'] := by rw [hW']; simp
  have hav2 : m2.av = .agg [.int .i64 K, V', W'] := by unfold Dfa.av; rw [hk2, ← hV', ← hW']
  have cw2 := w_check m2 hok2
  rw [hav2] at ct cw2
  have cg2 := w_give K V' W' hV1' hW1' hV2' hW2' hV3' hW3'
  have ck := x_checkTwo hV1 hV2 hV3 hW1 hW2 hW3 hV1' hV2' hV3' hW1' hW2' hW3' cw cw2
  have htm : (IntKind.u64.wrap b.letters).tmod 4 = (IntKind.u64.wrap b.letters) % 4 := Int.tmod_eq_emod_of_nonneg (u64_nonneg b.letters).1
  have hwk : IntKind.i64.wrap (IntKind.u64.wrap b.letters % 4) = IntKind.u64.wrap b.letters % 4 := by have := u64_nonneg b.letters; exact wrap_i64 (by omega) (by omega)
  have hwk2 : IntKind.i64.wrap (1 + IntKind.u64.wrap b.letters % 4) = (K : Int) := by rw [hK]; exact wrap_i64 (by omega) (by omega)
  have ha : a.av = .agg [.int .i64 a.letters, rowsA a.next, boolsA a.good] := rfl
  have hb : b.av = .agg [.int .i64 b.letters, rowsA b.next, boolsA b.good] := rfl
  rw [ha] at cr ⊢
  rw [hb] at ct ⊢
  simp
  intro b2 hb2
  simp
  intro b3 hb3
  simp at hb3
  simp [hb3]
  refine cr.use ?_
  simp [hb3]
  intro b5 hb5
  simp at hb5
  simp [hb3, hb5, hV1, hV2, hV3, hW1, hW2, hW3]
  refine cg.use ?_
  simp [hb3, hb5]
  intro b6 hb6
  simp at hb6
  simp [hb3, hb5, hb6, hV1, hV2, hV3, hW1, hW2, hW3]
  refine cf.use ?_
  simp [hb3, hb5, hb6, hV1, hV2, hV3, hW1, hW2, hW3]
  refine cw.use ?_
  simp [hb3, hb5, hb6, htm, hwk, hwk2]
  refine ct.use ?_
  simp [hb3, hb5, hb6]
  intro b8 hb8
  simp at hb8
  simp [hb3, hb5, hb6, hb8, hV1', hV2', hV3', hW1', hW2', hW3']
  refine cg2.use ?_
  simp [hb3, hb5, hb6, hb8]
  intro b9 hb9
  simp at hb9
  simp [hb3, hb5, hb6, hb8, hb9, hV1', hV2', hV3', hW1', hW2', hW3']
  have xnone := l_none
  unfold noAuto at xnone
  by_cases h0 : e = 0
  · subst h0
    obtain ⟨m, hok, hmk, hav⟩ := hko rfl
    rw [if_neg (by simp), if_neg (by simp)] at ck
    by_cases hkk : m.k = K
    · have hkI : a.letters = (K : Int) := by rw [← hmk, hkk]
      have c1 := w_Differ m m2 hok hok2 (hkk.trans hk2.symm)
      have c2 := w_Both m m2 hok hok2 (hkk.trans hk2.symm)
      have c3 := w_Follow m m2 hok hok2 (hkk.trans hk2.symm)
      obtain ⟨w, d, c1⟩ : ∃ w d, AH.Pure Try.prog 34 [m.av, m2.av] (.tup [.str w, .bool d, .int .i64 0]) := by
        revert c1
        split <;> exact fun c => ⟨_, _, c⟩
      obtain ⟨l2, v2, g2, e2, h2, ⟨i1, i2, i3⟩, i4, i5, i6⟩ := keptA_shape (setF andB m m2)
      obtain ⟨l3, v3, g3, e3, h3, ⟨j1, j2, j3⟩, j4, j5, j6⟩ := keptO_shape (folM m m2)
      rw [h2] at c2
      rw [h3] at c3
      rw [← hav, hav2] at c1 c2 c3
      rw [hkI] at c1 c2 c3 cf ⊢
      simp [hb3, hb5, hb6, hb8, hb9]
      refine c1.use ?_
      simp [hb3, hb5, hb6, hb8, hb9]
      refine c2.use ?_
      simp [hb3, hb5, hb6, hb8, hb9]
      intro b13 hb13
      simp at hb13
      simp [hb3, hb5, hb6, hb8, hb9, hb13, i1, i2, i3, i4, i5, i6]
      refine c3.use ?_
      simp [hb3, hb5, hb6, hb8, hb9, hb13]
      intro b15 hb15
      simp at hb15
      simp [hb3, hb5, hb6, hb8, hb9, hb13, hb15, j1, j2, j3, j4, j5, j6]
      refine cf.use ?_
      simp
      refine w_awake.use ?_
      simp
      exact finA_drop rfl
    · have hkI : ¬ a.letters = (K : Int) := by rw [← hmk]; omega
      rw [if_neg hkI] at ck
      have d1 := x_Differ hV1 hV2 hV3 hW1 hW2 hW3 hV1' hV2' hV3' hW1' hW2' hW3' (by simp) ck
      have d2 := x_Both hV1 hV2 hV3 hW1 hW2 hW3 hV1' hV2' hV3' hW1' hW2' hW3' (by simp) ck
      have d3 := x_Follow hV1 hV2 hV3 hW1 hW2 hW3 hV1' hV2' hV3' hW1' hW2' hW3' (by simp) ck
      unfold noAuto at d2 d3
      simp [hb3, hb5, hb6, hb8, hb9, hkI]
      refine d1.use ?_
      simp [hb3, hb5, hb6, hb8, hb9]
      refine d2.use ?_
      simp [hb3, hb5, hb6, hb8, hb9]
      intro b13 hb13
      simp at hb13
      simp [hb3, hb5, hb6, hb8, hb9, hb13]
      refine d3.use ?_
      simp [hb3, hb5, hb6, hb8, hb9, hb13]
      intro b15 hb15
      simp at hb15
      simp [hb3, hb5, hb6, hb8, hb9, hb13, hb15]
      refine xnone.use ?_
      simp [hb3, hb5, hb6, hb8, hb9, hb13, hb15]
      refine xnone.use ?_
      simp [hb3, hb5, hb6, hb8, hb9, hb13, hb15]
      refine cf.use ?_
      simp
      refine w_awake.use ?_
      simp
      exact finA_drop rfl
  · rw [if_pos h0] at ck
    have ck2 := x_checkTwo hV1' hV2' hV3' hW1' hW2' hW3' hV1 hV2 hV3 hW1 hW2 hW3 cw2 cw
    rw [if_neg (by simp), if_pos h0] at ck2
    have d1 := x_Differ hV1 hV2 hV3 hW1 hW2 hW3 hV1' hV2' hV3' hW1' hW2' hW3' h0 ck
    have d2 := x_Both hV1 hV2 hV3 hW1 hW2 hW3 hV1' hV2' hV3' hW1' hW2' hW3' h0 ck
    have d3 := x_Follow hV1 hV2 hV3 hW1 hW2 hW3 hV1' hV2' hV3' hW1' hW2' hW3' h0 ck
    have d4 := x_Differ hV1' hV2' hV3' hW1' hW2' hW3' hV1 hV2 hV3 hW1 hW2 hW3 h0 ck2
    have q1 := x_Accepts hV1 hV2 hV3 hW1 hW2 hW3 h0 cw
    have q2 := x_Least hV1 hV2 hV3 hW1 hW2 hW3 h0 cw
    have q3 := x_First hV1 hV2 hV3 hW1 hW2 hW3 h0 cw
    have q4 := x_Not hV1 hV2 hV3 hW1 hW2 hW3 h0 cw
    have q5 := x_Repeat hV1 hV2 hV3 hW1 hW2 hW3 h0 cw
    have q6 := x_Reverse hV1 hV2 hV3 hW1 hW2 hW3 h0 cw
    have q7 := x_Count hV1 hV2 hV3 hW1 hW2 hW3 h0 cw
    have q8 := x_Words hV1 hV2 hV3 hW1 hW2 hW3 h0 cw
    have q9 := x_Classes hV1 hV2 hV3 hW1 hW2 hW3 h0 cw
    have q10 := x_Part hV1 hV2 hV3 hW1 hW2 hW3 h0 cw
    have q11 := x_Monoid hV1 hV2 hV3 hW1 hW2 hW3 h0 cw
    have q12 := x_Group hV1 hV2 hV3 hW1 hW2 hW3 h0 cw
    have q13 := x_IsGroup hV1 hV2 hV3 hW1 hW2 hW3 h0 cw
    unfold noAuto at d2 d3 q2 q4 q5 q6
    simp [h0, hb3, hb5, hb6, hb8, hb9]
    refine d1.use ?_
    simp [h0, hb3, hb5, hb6, hb8, hb9]
    refine d2.use ?_
    simp [h0, hb3, hb5, hb6, hb8, hb9]
    intro b13 hb13
    simp at hb13
    simp [h0, hb3, hb5, hb6, hb8, hb9, hb13]
    refine d3.use ?_
    simp [h0, hb3, hb5, hb6, hb8, hb9, hb13]
    intro b15 hb15
    simp [hb13] at hb15
    simp [h0, hb3, hb5, hb6, hb8, hb9, hb13, hb15]
    refine xnone.use ?_
    simp [h0, hb3, hb5, hb6, hb8, hb9, hb13, hb15]
    refine xnone.use ?_
    simp [h0, hb3, hb5, hb6, hb8, hb9, hb13, hb15]
    refine cf.use ?_
    simp [h0, hb3, hb5, hb6, hb8, hb9, hb13, hb15]
    obtain ⟨HH, hHH⟩ : ∃ HH, HH = (((((((AHeap.empty.upd b2 (.cells [.int .i64 a.letters, rowsA a.next, boolsA a.good])).upd b3 (.cells [.int .i64 b.letters, rowsA b.next, boolsA b.good])).upd b5 (.cells [.int .i64 a.letters, V, W])).upd b6 (.cells [.int .i64 a.letters, V, W])).upd b8 (.cells [.int .i64 K, V', W'])).upd b9 (.cells [.int .i64 K, V', W'])).upd b13 (.cells [.int .i64 0, .nilsl, .nilsl])).upd b15 (.cells [.int .i64 0, .nilsl, .nilsl]) := ⟨_, rfl⟩
    have e6 : ∀ off, cellsAt HH b6 off = some (([.int .i64 a.letters, V, W] : List AV).drop off) := by intro off; rw [hHH]; simp [hb3, hb5, hb6, hb8, hb9, hb13, hb15]
    have e9 : ∀ off, cellsAt HH b9 off = some (([.int .i64 K, V', W'] : List AV).drop off) := by intro off; rw [hHH]; simp [hb3, hb5, hb6, hb8, hb9, hb13, hb15]
    rw [← hHH]
    clear hHH
    refine q1.use ?_
    simp [h0, e6, e9]
    refine q2.use ?_
    simp [h0, e6, e9]
    intro b19 hb19
    have n6 := ne_fresh (e6 0) hb19
    have n9 := ne_fresh (e9 0) hb19
    simp [e6, e9, n6, n9, h0]
    obtain ⟨H1, hH1⟩ : ∃ H1, H1 = HH.upd b19 (.cells [.int .i64 0, .nilsl, .nilsl]) := ⟨_, rfl⟩
    have f6 : ∀ off, cellsAt H1 b6 off = some (([.int .i64 a.letters, V, W] : List AV).drop off) := by intro off; rw [hH1]; simp [n6, e6]
    have f9 : ∀ off, cellsAt H1 b9 off = some (([.int .i64 K, V', W'] : List AV).drop off) := by intro off; rw [hH1]; simp [n9, e9]
    have f19 : ∀ off, cellsAt H1 b19 off = some (([.int .i64 0, .nilsl, .nilsl] : List AV).drop off) := by intro off; rw [hH1]; simp
    rw [← hH1]
    clear hH1 e6 e9 n6 n9 hb19
    have e6 := f6
    have e9 := f9
    have e19 := f19
    clear f6 f9 f19
    refine q3.use ?_
    simp [h0, e6, e9, e19]
    refine q4.use ?_
    simp [h0, e6, e9, e19]
    intro b23 hb23
    have n6 := ne_fresh (e6 0) hb23
    have n9 := ne_fresh (e9 0) hb23
    have n19 := ne_fresh (e19 0) hb23
    simp [e6, e9, e19, n6, n9, n19, h0]
    obtain ⟨H2, hH2⟩ : ∃ H2, H2 = H1.upd b23 (.cells [.int .i64 0, .nilsl, .nilsl]) := ⟨_, rfl⟩
    have f6 : ∀ off, cellsAt H2 b6 off = some (([.int .i64 a.letters, V, W] : List AV).drop off) := by intro off; rw [hH2]; simp [n6, e6]
    have f9 : ∀ off, cellsAt H2 b9 off = some (([.int .i64 K, V', W'] : List AV).drop off) := by intro off; rw [hH2]; simp [n9, e9]
    have f19 : ∀ off, cellsAt H2 b19 off = some (([.int .i64 0, .nilsl, .nilsl] : List AV).drop off) := by intro off; rw [hH2]; simp [n19, e19]
    have f23 : ∀ off, cellsAt H2 b23 off = some (([.int .i64 0, .nilsl, .nilsl] : List AV).drop off) := by intro off; rw [hH2]; simp
    rw [← hH2]
    clear hH2 e6 e9 e19 n6 n9 n19 hb23
    have e6 := f6
    have e9 := f9
    have e19 := f19
    have e23 := f23
    clear f6 f9 f19 f23
    refine q5.use ?_
    simp [h0, e6, e9, e19, e23]
    intro b25 hb25
    have n6 := ne_fresh (e6 0) hb25
    have n9 := ne_fresh (e9 0) hb25
    have n19 := ne_fresh (e19 0) hb25
    have n23 := ne_fresh (e23 0) hb25
    simp [e6, e9, e19, e23, n6, n9, n19, n23, h0]
    obtain ⟨H3, hH3⟩ : ∃ H3, H3 = H2.upd b25 (.cells [.int .i64 0, .nilsl, .nilsl]) := ⟨_, rfl⟩
    have f6 : ∀ off, cellsAt H3 b6 off = some (([.int .i64 a.letters, V, W] : List AV).drop off) := by intro off; rw [hH3]; simp [n6, e6]
    have f9 : ∀ off, cellsAt H3 b9 off = some (([.int .i64 K, V', W'] : List AV).drop off) := by intro off; rw [hH3]; simp [n9, e9]
    have f19 : ∀ off, cellsAt H3 b19 off = some (([.int .i64 0, .nilsl, .nilsl] : List AV).drop off) := by intro off; rw [hH3]; simp [n19, e19]
    have f23 : ∀ off, cellsAt H3 b23 off = some (([.int .i64 0, .nilsl, .nilsl] : List AV).drop off) := by intro off; rw [hH3]; simp [n23, e23]
    have f25 : ∀ off, cellsAt H3 b25 off = some (([.int .i64 0, .nilsl, .nilsl] : List AV).drop off) := by intro off; rw [hH3]; simp
    rw [← hH3]
    clear hH3 e6 e9 e19 e23 n6 n9 n19 n23 hb25
    have e6 := f6
    have e9 := f9
    have e19 := f19
    have e23 := f23
    have e25 := f25
    clear f6 f9 f19 f23 f25
    refine q6.use ?_
    simp [h0, e6, e9, e19, e23, e25]
    intro b27 hb27
    have n6 := ne_fresh (e6 0) hb27
    have n9 := ne_fresh (e9 0) hb27
    have n19 := ne_fresh (e19 0) hb27
    have n23 := ne_fresh (e23 0) hb27
    have n25 := ne_fresh (e25 0) hb27
    simp [e6, e9, e19, e23, e25, n6, n9, n19, n23, n25, h0]
    obtain ⟨H4, hH4⟩ : ∃ H4, H4 = H3.upd b27 (.cells [.int .i64 0, .nilsl, .nilsl]) := ⟨_, rfl⟩
    have f6 : ∀ off, cellsAt H4 b6 off = some (([.int .i64 a.letters, V, W] : List AV).drop off) := by intro off; rw [hH4]; simp [n6, e6]
    have f9 : ∀ off, cellsAt H4 b9 off = some (([.int .i64 K, V', W'] : List AV).drop off) := by intro off; rw [hH4]; simp [n9, e9]
    have f19 : ∀ off, cellsAt H4 b19 off = some (([.int .i64 0, .nilsl, .nilsl] : List AV).drop off) := by intro off; rw [hH4]; simp [n19, e19]
    have f23 : ∀ off, cellsAt H4 b23 off = some (([.int .i64 0, .nilsl, .nilsl] : List AV).drop off) := by intro off; rw [hH4]; simp [n23, e23]
    have f25 : ∀ off, cellsAt H4 b25 off = some (([.int .i64 0, .nilsl, .nilsl] : List AV).drop off) := by intro off; rw [hH4]; simp [n25, e25]
    have f27 : ∀ off, cellsAt H4 b27 off = some (([.int .i64 0, .nilsl, .nilsl] : List AV).drop off) := by intro off; rw [hH4]; simp
    rw [← hH4]
    clear hH4 e6 e9 e19 e23 e25 n6 n9 n19 n23 n25 hb27
    have e6 := f6
    have e9 := f9
    have e19 := f19
    have e23 := f23
    have e25 := f25
    have e27 := f27
    clear f6 f9 f19 f23 f25 f27
    refine q7.use ?_
    simp [h0, e6, e9, e19, e23, e25, e27]
    refine q8.use ?_
    simp [h0, e6, e9, e19, e23, e25, e27]
    refine q9.use ?_
    simp [h0, e6, e9, e19, e23, e25, e27]
    refine q10.use ?_
    simp [h0, e6, e9, e19, e23, e25, e27]
    refine q11.use ?_
    simp [h0, e6, e9, e19, e23, e25, e27]
    refine q12.use ?_
    simp [h0, e6, e9, e19, e23, e25, e27]
    refine d4.use ?_
    simp [h0, e6, e9, e19, e23, e25, e27]
    refine xnone.use ?_
    simp [h0, e6, e9, e19, e23, e25, e27]
    refine xnone.use ?_
    simp [h0, e6, e9, e19, e23, e25, e27]
    refine q13.use ?_
    simp [h0, e6, e9, e19, e23, e25, e27]
    refine w_awake.use ?_
    simp [h0, e6, e9, e19, e23, e25, e27]
    exact finA_drop rfl
end Go.Proofs
