/-
  Walk: the law WordDiffers.
-/
import Derived.Test.YtobhipohnjmnhaaWdPtd
import Derived.Test.YtobhipohnjmnhaaWdAw2
set_option linter.unusedSimpArgs false
set_option linter.unusedVariables false
set_option linter.unusedSectionVars false
namespace Go.Proofs
open Go Go.AH
set_option maxRecDepth 10000
set_option maxHeartbeats 4000000

theorem rauto_inj {a b : RAuto} (h : a.av = b.av) : a = b := by
  have h0 := AV.agg.inj h
  simp only [List.cons.injEq, and_true] at h0
  obtain ⟨h1, h2, h3⟩ := h0
  have e1 : a.letters = b.letters := (AV.int.inj h1).2
  have e2 : a.next = b.next := by
    have := (AV.sl.inj h2).2
    refine (List.map_inj_right ?_).1 this
    intro x y hxy
    exact (List.map_inj_right fun u v huv => (AV.int.inj huv).2).1 (AV.sl.inj hxy).2
  have e3 : a.good = b.good := (List.map_inj_right fun u v huv => AV.bool.inj huv).1 (AV.sl.inj h3).2
  cases a; cases b; simp_all

theorem w_WordDiffers (a b : RAuto) (hs : a.sized) (hs' : b.sized) (w0 w1 : List UInt8) (hw0 : w0.length ≤ 4611686018427387904) (hw1 : w1.length ≤ 4611686018427387904) : Pure Try.prog 6 [a.av, b.av, .agg [.str w0, .str w1]] (.bool true) := by
  refine pure_of (acalls_of Try.func6 rfl Try.call6 (by kernel_rfl) (by show _ ≤ (128 : Nat); simp) ?_)
  obtain ⟨hl1, hl4⟩ := letters_bd a.letters
  have cl := w_letters a.letters
  obtain ⟨K, hK⟩ : ∃ K : Nat, lettersF a.letters = K := ⟨(lettersF a.letters).toNat, by omega⟩
  rw [hK] at cl hl1 hl4
  have tx := w_tame a hs K 9 (by omega) (by omega) (by omega)
  have xok := tame_ok a K 9 (by omega) (by omega) (by omega)
  have xk : (tameF a K 9).k = K := rfl
  obtain ⟨x, ex⟩ : ∃ x, x = tameF a K 9 := ⟨_, rfl⟩
  rw [← ex] at tx xok xk
  have ty := w_tame b hs' K 9 (by omega) (by omega) (by omega)
  have yok := tame_ok b K 9 (by omega) (by omega) (by omega)
  have yk : (tameF b K 9).k = K := rfl
  obtain ⟨y, ey⟩ : ∃ y, y = tameF b K 9 := ⟨_, rfl⟩
  rw [← ey] at ty yok yk
  have kxy : x.k = y.k := xk.trans yk.symm
  have gx := w_give (x.k : Int) (nrowsA x.next) (boolsA x.good) (by simp) (by simp) (by simp) (by simp) (by simp) (by simp)
  have gy := w_give (y.k : Int) (nrowsA y.next) (boolsA y.good) (by simp) (by simp) (by simp) (by simp) (by simp) (by simp)
  have cD := w_Differ x y xok yok kxy
  have cR := w_refDiffer x y xok yok kxy
  have haa : a.av = .agg [.int .i64 a.letters, rowsA a.next, boolsA a.good] := rfl
  have hab : b.av = .agg [.int .i64 b.letters, rowsA b.next, boolsA b.good] := rfl
  rw [haa] at tx ⊢
  rw [hab] at ty ⊢
  generalize firstF (prodF x y ⟨0, 0⟩ (· != ·)) = D at cD cR
  replace cD : AH.Pure Try.prog 34 [x.av, y.av] (.tup [.str (D.getD []), .bool D.isSome, .int .i64 0]) := by cases D <;> exact cD
  replace cR : AH.Pure Try.prog 35 [x.av, y.av] (.tup [.str (D.getD []), .bool D.isSome]) := by cases D <;> exact cR
  simp only [Dfa.av] at tx ty cD cR
  obtain ⟨Γ, hΓ⟩ : ∃ Γ : Gam, Γ = [(.fn (.func 15) [] [], [.agg [.int .i64 a.letters, rowsA a.next, boolsA a.good], .int .i64 (K : Int), .int .i64 9], .agg [.int .i64 (x.k : Int), nrowsA x.next, boolsA x.good]), (.fn (.func 15) [] [], [.agg [.int .i64 b.letters, rowsA b.next, boolsA b.good], .int .i64 (K : Int), .int .i64 9], .agg [.int .i64 (y.k : Int), nrowsA y.next, boolsA y.good])] := ⟨_, rfl⟩
  have okΓ : Γ.ok Try.prog := by rw [hΓ]; simp; exact ⟨PureV.of tx, PureV.of ty⟩
  have g1 : gamGet Γ (.fn (.func 15) [] []) [.agg [.int .i64 a.letters, rowsA a.next, boolsA a.good], .int .i64 (K : Int), .int .i64 9] = some (.agg [.int .i64 (x.k : Int), nrowsA x.next, boolsA x.good]) := by rw [hΓ]; exact gamGet_here
  have g2 : gamGet Γ (.fn (.func 15) [] []) [.agg [.int .i64 b.letters, rowsA b.next, boolsA b.good], .int .i64 (K : Int), .int .i64 9] = some (.agg [.int .i64 (y.k : Int), nrowsA y.next, boolsA y.good]) := by
    rw [hΓ, gamGet_cons]
    split
    · next h =>
      have h1 : a.av = b.av := (List.cons.inj h.2).1
      have : x = y := by rw [ex, ey, rauto_inj h1]
      rw [this]
    · exact gamGet_here
  clear hΓ
  simp
  intro b3 hb3
  simp
  intro b4 hb4
  simp at hb4
  simp [hb4]
  intro b5 hb5
  simp at hb5
  simp [hb4, hb5]
  refine cl.use ?_
  simp [hb4, hb5]
  refine awp_draw_text (by kernel_rfl) [29, 32] Γ (by kernel_rfl) (by kernel_rfl) okΓ ?_
  simp [hb4, hb5, g1, g2]
  intro b8 hb8
  simp at hb8
  simp [hb8]
  intro b9 hb9
  simp at hb9
  simp [hb8, hb9]
  obtain ⟨HH, hHH⟩ : ∃ HH, HH = ((((AHeap.empty.upd b3 (.cells [.int .i64 a.letters, rowsA a.next, boolsA a.good])).upd b4 (.cells [.int .i64 b.letters, rowsA b.next, boolsA b.good])).upd b5 (.cells [.str w0, .str w1])).upd b8 (.cells [.int .i64 (x.k : Int), nrowsA x.next, boolsA x.good])).upd b9 (.cells [.int .i64 (y.k : Int), nrowsA y.next, boolsA y.good]) := ⟨_, rfl⟩
  have e5 : ∀ off, cellsAt HH b5 off = some (([.str w0, .str w1] : List AV).drop off) := by intro off; rw [hHH]; simp [hb5, hb8, hb9]
  have e8 : ∀ off, cellsAt HH b8 off = some (([.int .i64 (x.k : Int), nrowsA x.next, boolsA x.good] : List AV).drop off) := by intro off; rw [hHH]; simp [hb8, hb9]
  have e9 : ∀ off, cellsAt HH b9 off = some (([.int .i64 (y.k : Int), nrowsA y.next, boolsA y.good] : List AV).drop off) := by intro off; rw [hHH]; simp [hb8, hb9]
  rw [← hHH]
  clear hHH tx ty g1 g2 okΓ hb4 hb5 hb8 hb9
  obtain ⟨Γ2, hΓ2⟩ : ∃ Γ2 : Gam, Γ2 = [(.fn (.func 17) [] [], [.agg [.int .i64 (x.k : Int), nrowsA x.next, boolsA x.good]], .agg [.int .i64 (x.k : Int), nrowsA x.next, boolsA x.good]), (.fn (.func 17) [] [], [.agg [.int .i64 (y.k : Int), nrowsA y.next, boolsA y.good]], .agg [.int .i64 (y.k : Int), nrowsA y.next, boolsA y.good]), (.fn (.func 34) [] [], [.agg [.int .i64 (x.k : Int), nrowsA x.next, boolsA x.good], .agg [.int .i64 (y.k : Int), nrowsA y.next, boolsA y.good]], .tup [.str (D.getD []), .bool D.isSome, .int .i64 0])] := ⟨_, rfl⟩
  have okΓ2 : Γ2.ok Try.prog := by rw [hΓ2]; simp; exact ⟨PureV.of gx, PureV.of gy, PureV.of cD⟩
  have k1 : gamGet Γ2 (.fn (.func 17) [] []) [.agg [.int .i64 (x.k : Int), nrowsA x.next, boolsA x.good]] = some (.agg [.int .i64 (x.k : Int), nrowsA x.next, boolsA x.good]) := by rw [hΓ2]; exact gamGet_here
  have k2 : gamGet Γ2 (.fn (.func 17) [] []) [.agg [.int .i64 (y.k : Int), nrowsA y.next, boolsA y.good]] = some (.agg [.int .i64 (y.k : Int), nrowsA y.next, boolsA y.good]) := by
    rw [hΓ2, gamGet_cons]
    split
    · next h => rw [(List.cons.inj h.2).1]
    · exact gamGet_here
  have k3 : gamGet Γ2 (.fn (.func 34) [] []) [.agg [.int .i64 (x.k : Int), nrowsA x.next, boolsA x.good], .agg [.int .i64 (y.k : Int), nrowsA y.next, boolsA y.good]] = some (.tup [.str (D.getD []), .bool D.isSome, .int .i64 0]) := by
    rw [hΓ2, gamGet_cons, if_neg (by simp), gamGet_cons, if_neg (by simp)]; exact gamGet_here
  clear hΓ2
  refine awp_draw_text (by kernel_rfl) [35, 37, 38] Γ2 (by kernel_rfl) (by kernel_rfl) okΓ2 ?_
  simp [e8, e9, k1, k2, k3]
  refine cR.use ?_
  simp [e5]
  refine awp_draw_text (by kernel_rfl) [] [] (by kernel_rfl) (by kernel_rfl) (by simp) ?_
  simp [e5]
  refine awp_loop_g (γ := Nat × List UInt8 × List UInt8) (fun g t h => (g.1 ≤ 2) ∧ (g.2.1.length ≤ 4611686018427387904) ∧ (g.2.2.length ≤ 4611686018427387904) ∧ t 7 = .int .i64 K ∧ t 8 = .ptr b8 0 ∧ t 15 = .str g.2.1 ∧ t 16 = .str g.2.2 ∧ t 17 = .int .i64 g.1 ∧ h = HH) (fun g => 2 - g.1) ((0, w0, w1)) (turnA_self (by simp [hw0, hw1])) ?_
  rintro g t hO ⟨hi, hul, hzl, h7, h8, h15, h16, h17, hhO⟩
  rw [hhO]
  clear hw0 hw1 cD cR okΓ2 k1 k2 k3
  obtain ⟨i, u, z⟩ := g
  simp only at h7 h8 h15 h16 h17 hi hul hzl
  by_cases hlt : i < 2
  · have hltI : (i : Int) < 2 := by omega
    have hwi : IntKind.i64.wrap ((i : Int) + 1) = (i : Int) + 1 := wrap_i64 (by omega) (by omega)
    have cP := w_Part x xok u z hul hzl
    have cu := w_refWord x.k xok.k4 u hul
    have cz := w_refWord x.k xok.k4 z hzl
    have t1' := w_text u hul x.k 12 xok.k1 xok.k4 (by omega)
    have t2' := w_text z hzl x.k 12 xok.k1 xok.k4 (by omega)
    rw [xk] at cu cz t1' t2'
    have l1 := textF_len K 12 u; have l2 := textF_len K 12 z
    unfold partA at cP
    rw [xk] at cP
    generalize hQ : partF x (goW x 0 (lts u)) (goW x 0 (lts z)) = Q at cP
    replace cP : AH.Pure Try.prog 36 [x.av, .str u, .str z] (if wordsErr K [u, z] = 0 then .tup [.str (Q.getD []), .bool Q.isSome, .int .i64 0] else .tup [.str [], .bool false, .int .i64 (wordsErr K [u, z])]) := by cases Q <;> exact cP
    simp only [Dfa.av] at cP
    simp [h7, h8, h15, h16, h17, hltI, hlt, e8]
    refine gx.use ?_
    simp [h7, h8, h15, h16, h17]
    refine cP.use ?_
    have hen : ∀ w, wordErr K w = 0 ∨ ¬ wordErr K w = 0 := fun w => by omega
    rcases wordErr_cases K u with eu | eu | eu
    · rcases wordErr_cases K z with ez | ez | ez
      · have euz : wordsErr K [u, z] = 0 := by simp [wordsErr, eu, ez]
        obtain ⟨gu, lu⟩ := not_bad eu
        obtain ⟨gz, lz⟩ := not_bad ez
        have hn1 : 0 < x.next.length := by have := xok.n1; omega
        have f0 := w_refFrom x xok.wf 0 hn1 u hul (by rw [xk]; exact gu)
        have f1 := w_refFrom x xok.wf 0 hn1 z hzl (by rw [xk]; exact gz)
        have su := goW_lt xok.wf (lts u) 0 hn1 (lts_ok (by rw [xk]; exact gu))
        have sz := goW_lt xok.wf (lts z) 0 hn1 (lts_ok (by rw [xk]; exact gz))
        have hn : x.next.length * x.next.length ≤ 64 * 64 := Nat.mul_le_mul xok.n64 xok.n64
        have cq := w_refParted x x xok.wf xok.wf rfl (by omega) _ _ su sz
        have hpf : partF x (goW x 0 (lts u)) (goW x 0 (lts z)) = firstF (prodF x x ⟨goW x 0 (lts u), goW x 0 (lts z)⟩ (· != ·)) := rfl
        rw [← hpf, hQ] at cq
        clear hpf hQ
        replace cq : AH.Pure Try.prog 37 [x.av, .int .i64 (goW x 0 (lts u)), x.av, .int .i64 (goW x 0 (lts z))] (.tup [.str (Q.getD []), .bool Q.isSome]) := by cases Q <;> exact cq
        simp only [Dfa.av] at f0 f1 cq
        obtain ⟨s, hsE⟩ : ∃ s, s = goW x 0 (lts u) := ⟨_, rfl⟩
        obtain ⟨r, hrE⟩ : ∃ r, r = goW x 0 (lts z) := ⟨_, rfl⟩
        rw [← hsE] at f0 cq
        rw [← hrE] at f1 cq
        obtain ⟨Γ3, hΓ3⟩ : ∃ Γ3 : Gam, Γ3 = [(.fn (.func 38) [] [], [.agg [.int .i64 (x.k : Int), nrowsA x.next, boolsA x.good], .int .i64 0, .str u], .int .i64 (s : Int)), (.fn (.func 38) [] [], [.agg [.int .i64 (x.k : Int), nrowsA x.next, boolsA x.good], .int .i64 0, .str z], .int .i64 (r : Int)), (.fn (.func 37) [] [], [.agg [.int .i64 (x.k : Int), nrowsA x.next, boolsA x.good], .int .i64 (s : Int), .agg [.int .i64 (x.k : Int), nrowsA x.next, boolsA x.good], .int .i64 (r : Int)], .tup [.str (Q.getD []), .bool Q.isSome])] := ⟨_, rfl⟩
        have okΓ3 : Γ3.ok Try.prog := by rw [hΓ3]; simp; exact ⟨PureV.of f0, PureV.of f1, PureV.of cq⟩
        have m1 : gamGet Γ3 (.fn (.func 38) [] []) [.agg [.int .i64 (x.k : Int), nrowsA x.next, boolsA x.good], .int .i64 0, .str u] = some (.int .i64 (s : Int)) := by rw [hΓ3]; exact gamGet_here
        have m2 : gamGet Γ3 (.fn (.func 38) [] []) [.agg [.int .i64 (x.k : Int), nrowsA x.next, boolsA x.good], .int .i64 0, .str z] = some (.int .i64 (r : Int)) := by
          rw [hΓ3, gamGet_cons]
          split
          · next h =>
            have huz : u = z := by have := h.2; simpa using this
            rw [hsE, hrE, huz]
          · exact gamGet_here
        have m3 : gamGet Γ3 (.fn (.func 37) [] []) [.agg [.int .i64 (x.k : Int), nrowsA x.next, boolsA x.good], .int .i64 (s : Int), .agg [.int .i64 (x.k : Int), nrowsA x.next, boolsA x.good], .int .i64 (r : Int)] = some (.tup [.str (Q.getD []), .bool Q.isSome]) := by
          rw [hΓ3, gamGet_cons, if_neg (by simp), gamGet_cons, if_neg (by simp)]; exact gamGet_here
        clear hΓ3
        simp [h7, h8, h15, h16, h17, euz]
        refine cu.use ?_
        simp [h7, h8, h15, h16, h17, eu]
        refine cz.use ?_
        simp [h7, h8, h15, h16, h17, ez]
        refine awp_draw_text (by kernel_rfl) [101, 105, 106] Γ3 (by kernel_rfl) (by kernel_rfl) okΓ3 ?_
        simp [h7, h8, h15, h16, h17, e8, m1, m2, m3]
        refine t1'.use ?_
        simp [h7, h8, h15, h16, h17]
        refine t2'.use ?_
        simp [h7, h8, h15, h16, h17]
        exact turnA_self ⟨i + 1, by omega, by omega, textF K 12 u, by omega, textF K 12 z, by omega, by simp [h7, h8, h15, h16, h17, hwi]⟩
      · have euz : wordsErr K [u, z] = 1 := by simp [wordsErr, eu, ez]
        simp [h7, h8, h15, h16, h17, euz]
        refine cu.use ?_
        simp [h7, h8, h15, h16, h17, eu]
        refine cz.use ?_
        simp [h7, h8, h15, h16, h17, ez]
        refine t1'.use ?_
        simp [h7, h8, h15, h16, h17]
        refine t2'.use ?_
        simp [h7, h8, h15, h16, h17]
        exact turnA_self ⟨i + 1, by omega, by omega, textF K 12 u, by omega, textF K 12 z, by omega, by simp [h7, h8, h15, h16, h17, hwi]⟩
      · have euz : wordsErr K [u, z] = 2 := by simp [wordsErr, eu, ez]
        simp [h7, h8, h15, h16, h17, euz]
        refine cu.use ?_
        simp [h7, h8, h15, h16, h17, eu]
        refine cz.use ?_
        simp [h7, h8, h15, h16, h17, ez]
        refine t1'.use ?_
        simp [h7, h8, h15, h16, h17]
        refine t2'.use ?_
        simp [h7, h8, h15, h16, h17]
        exact turnA_self ⟨i + 1, by omega, by omega, textF K 12 u, by omega, textF K 12 z, by omega, by simp [h7, h8, h15, h16, h17, hwi]⟩
    · have euz : wordsErr K [u, z] = 1 := by simp [wordsErr, eu]
      simp [h7, h8, h15, h16, h17, euz]
      refine cu.use ?_
      simp [h7, h8, h15, h16, h17, eu]
      refine t1'.use ?_
      simp [h7, h8, h15, h16, h17]
      refine t2'.use ?_
      simp [h7, h8, h15, h16, h17]
      exact turnA_self ⟨i + 1, by omega, by omega, textF K 12 u, by omega, textF K 12 z, by omega, by simp [h7, h8, h15, h16, h17, hwi]⟩
    · have euz : wordsErr K [u, z] = 2 := by simp [wordsErr, eu]
      simp [h7, h8, h15, h16, h17, euz]
      refine cu.use ?_
      simp [h7, h8, h15, h16, h17, eu]
      refine t1'.use ?_
      simp [h7, h8, h15, h16, h17]
      refine t2'.use ?_
      simp [h7, h8, h15, h16, h17]
      exact turnA_self ⟨i + 1, by omega, by omega, textF K 12 u, by omega, textF K 12 z, by omega, by simp [h7, h8, h15, h16, h17, hwi]⟩
  · obtain rfl : i = 2 := by omega
    simp [h7, h8, h15, h16, h17]
    refine w_awake.use ?_
    simp
    exact finA_drop rfl
end Go.Proofs
