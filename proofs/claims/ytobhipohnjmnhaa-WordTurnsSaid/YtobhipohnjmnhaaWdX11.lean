/-
  Walk: the law WordTurns.
-/
import Derived.Test.YtobhipohnjmnhaaV11
import Derived.Test.YtobhipohnjmnhaaWdX7
set_option linter.unusedSimpArgs false
set_option linter.unusedVariables false
set_option linter.unusedSectionVars false
namespace Go.Proofs
open Go Go.AH
set_option maxRecDepth 10000
set_option maxHeartbeats 8000000

theorem w_WordTurns (a b : RAuto) (hs : a.sized) (hs' : b.sized) : Pure Try.prog 11 [a.av, b.av] (.bool true) := by
  refine pure_of (acalls_of Try.func11 rfl Try.call11 (by kernel_rfl) (by show _ ≤ (178 : Nat); simp) ?_)
  obtain ⟨hl1, hl4⟩ := letters_bd a.letters
  have cl := w_letters a.letters
  obtain ⟨K, hK⟩ : ∃ K : Nat, lettersF a.letters = K := ⟨(lettersF a.letters).toNat, by omega⟩
  rw [hK] at cl hl1 hl4
  have tx := w_tame a hs K 4 (by omega) (by omega) (by omega)
  have xok := tame_ok a K 4 (by omega) (by omega) (by omega)
  have xk : (tameF a K 4).k = K := rfl
  have xn := tame_n a K 4 (by omega)
  obtain ⟨x, ex⟩ : ∃ x, x = tameF a K 4 := ⟨_, rfl⟩
  rw [← ex] at tx xok xk xn
  have gx := w_give (x.k : Int) (nrowsA x.next) (boolsA x.good) (by simp) (by simp) (by simp) (by simp) (by simp) (by simp)
  have ty := w_tame b hs' K 4 (by omega) (by omega) (by omega)
  have yok := tame_ok b K 4 (by omega) (by omega) (by omega)
  have yk : (tameF b K 4).k = K := rfl
  have yn := tame_n b K 4 (by omega)
  obtain ⟨y, ey⟩ : ∃ y, y = tameF b K 4 := ⟨_, rfl⟩
  rw [← ey] at ty yok yk yn
  have gy := w_give (y.k : Int) (nrowsA y.next) (boolsA y.good) (by simp) (by simp) (by simp) (by simp) (by simp) (by simp)
  have kxy : x.k = y.k := xk.trans yk.symm
  have h16 : ∀ n, n ≤ 4 → 2 ^ n ≤ 16 := fun n h => two_le h
  obtain ⟨r, eR, cr, rk, rn, ra⟩ := turn_rev xok (by omega)
  have rn16 : r.next.length ≤ 16 := Nat.le_trans rn (h16 _ xn)
  have rok := cr.ok (by omega)
  have eS := turn_back xok (by omega) cr rk (by omega) ra
  obtain ⟨p, eP, cp, pk, pn, eQ⟩ := turn_rep xok xn
  have pok := cp.ok (by omega)
  have hxy : x.next.length * 2 ^ y.next.length ≤ 4 * 16 := Nat.mul_le_mul xn (h16 _ yn)
  obtain ⟨U, eU, uw, uk, un, ua⟩ := turn_fol xok yok kxy (by omega)
  have cu := least_canon uw
  have un2 := least_n uw
  have uk2 := least_k uw
  have ua2 := fun w hw => least_acc uw w hw
  have eUu : keptO (folM x y) = .tup [(leastF U).av, .int .i64 0] := by rw [eU]; exact kept_ok (by omega)
  generalize leastF U = u at cu un2 uk2 ua2 eUu
  have uok := cu.ok (by omega)
  obtain ⟨v, eV, cv, vk, vn, va⟩ := turn_rev yok (by omega)
  have vn16 : v.next.length ≤ 16 := Nat.le_trans vn (h16 _ yn)
  have vok := cv.ok (by omega)
  obtain ⟨Z, zw, eM, eN⟩ := turn_swap xok yok xn yn kxy cr rk rn16 ra cv vk vn16 va cu (uk2.trans uk) (by omega) (fun w hw => by rw [ua2 w (by rw [uk]; exact hw), ua w hw])
  have kvr : v.k = r.k := by rw [vk, rk, kxy]
  have cL := w_Least x xok
  rw [if_neg (by have := least_n xok.wf; omega)] at cL
  have cR := w_Reverse x xok
  rw [eR] at cR
  have cS := w_Reverse r rok
  rw [eS] at cS
  have cP := w_Repeat x xok
  rw [eP] at cP
  have cQ := w_Repeat p pok
  rw [eQ] at cQ
  have cU := w_Follow x y xok yok kxy
  rw [eUu] at cU
  have cV := w_Reverse y yok
  rw [eV] at cV
  have cM := w_Reverse u uok
  rw [eM] at cM
  have cN := w_Follow v r vok rok kvr
  rw [eN] at cN
  have lw := least_wf xok.wf
  generalize leastF x = l at cL cS lw
  have a1 := w_alike l l lw lw
  have a2 := w_alike p p pok.wf pok.wf
  have a3 := w_alike Z Z zw zw
  rw [decT rfl] at a1 a2 a3
  have aa : a.av = .agg [.int .i64 a.letters, rowsA a.next, boolsA a.good] := rfl
  have ab : b.av = .agg [.int .i64 b.letters, rowsA b.next, boolsA b.good] := rfl
  rw [aa] at tx ⊢
  rw [ab] at ty ⊢
  simp only [Dfa.av] at tx ty cL cR cS cP cQ cU cV cM cN a1 a2 a3
  obtain ⟨Γ, hΓ⟩ : ∃ Γ : Gam, Γ = [(.fn (.func 15) [] [], [.agg [.int .i64 a.letters, rowsA a.next, boolsA a.good], .int .i64 (K : Int), .int .i64 4], .agg [.int .i64 (x.k : Int), nrowsA x.next, boolsA x.good]), (.fn (.func 15) [] [], [.agg [.int .i64 b.letters, rowsA b.next, boolsA b.good], .int .i64 (K : Int), .int .i64 4], .agg [.int .i64 (y.k : Int), nrowsA y.next, boolsA y.good]), (.fn (.func 17) [] [], [.agg [.int .i64 (x.k : Int), nrowsA x.next, boolsA x.good]], .agg [.int .i64 (x.k : Int), nrowsA x.next, boolsA x.good]), (.fn (.func 17) [] [], [.agg [.int .i64 (y.k : Int), nrowsA y.next, boolsA y.good]], .agg [.int .i64 (y.k : Int), nrowsA y.next, boolsA y.good])] := ⟨_, rfl⟩
  have okΓ : Γ.ok Try.prog := by
    rw [hΓ]; simp; exact ⟨PureV.of tx, PureV.of ty, PureV.of gx, PureV.of gy⟩
  have g1 : gamGet Γ (.fn (.func 15) [] []) [.agg [.int .i64 a.letters, rowsA a.next, boolsA a.good], .int .i64 (K : Int), .int .i64 4] = some (.agg [.int .i64 (x.k : Int), nrowsA x.next, boolsA x.good]) := by rw [hΓ]; exact gamGet_here
  have g2 : gamGet Γ (.fn (.func 15) [] []) [.agg [.int .i64 b.letters, rowsA b.next, boolsA b.good], .int .i64 (K : Int), .int .i64 4] = some (.agg [.int .i64 (y.k : Int), nrowsA y.next, boolsA y.good]) := by
    rw [hΓ, gamGet_cons]
    split
    · next h =>
      have h1 : a.av = b.av := (List.cons.inj h.2).1
      have : x = y := by rw [ex, ey, rav_inj h1]
      rw [this]
    · exact gamGet_here
  have g4 : gamGet Γ (.fn (.func 17) [] []) [.agg [.int .i64 (x.k : Int), nrowsA x.next, boolsA x.good]] = some (.agg [.int .i64 (x.k : Int), nrowsA x.next, boolsA x.good]) := by
    rw [hΓ, gamGet_cons, if_neg (by simp), gamGet_cons, if_neg (by simp)]
    repeat' (first | exact gamGet_here | (rw [gamGet_cons]; split; · next h => rw [(List.cons.inj h.2).1]))
  have g5 : gamGet Γ (.fn (.func 17) [] []) [.agg [.int .i64 (y.k : Int), nrowsA y.next, boolsA y.good]] = some (.agg [.int .i64 (y.k : Int), nrowsA y.next, boolsA y.good]) := by
    rw [hΓ, gamGet_cons, if_neg (by simp), gamGet_cons, if_neg (by simp)]
    repeat' (first | exact gamGet_here | (rw [gamGet_cons]; split; · next h => rw [(List.cons.inj h.2).1]))
  clear hΓ tx ty gx gy ra va ua ua2 eR eS eP eQ eU eUu eV eM eN
  simp
  intro b2 hb2
  simp
  intro b3 hb3
  simp at hb3
  simp [hb3]
  refine cl.use ?_
  simp [hb3]
  refine awp_draw_text (by kernel_rfl) [31, 32, 35, 36] Γ (by kernel_rfl) (by kernel_rfl) okΓ ?_
  simp [hb3, g1, g2, g4, g5]
  intro b6 hb6
  simp at hb6
  simp [hb3, hb6]
  intro b7 hb7
  simp at hb7
  simp [hb3, hb6, hb7]
  obtain ⟨H0, hH0⟩ : ∃ H0, H0 = (((AHeap.empty.upd b2 (.cells [.int .i64 a.letters, rowsA a.next, boolsA a.good])).upd b3 (.cells [.int .i64 b.letters, rowsA b.next, boolsA b.good])).upd b6 (.cells [.int .i64 (x.k : Int), nrowsA x.next, boolsA x.good])).upd b7 (.cells [.int .i64 (y.k : Int), nrowsA y.next, boolsA y.good]) := ⟨_, rfl⟩
  have e6 : ∀ off, cellsAt H0 b6 off = some (([.int .i64 (x.k : Int), nrowsA x.next, boolsA x.good] : List AV).drop off) := by intro off; rw [hH0]; simp [hb3, hb6, hb7]
  have e7 : ∀ off, cellsAt H0 b7 off = some (([.int .i64 (y.k : Int), nrowsA y.next, boolsA y.good] : List AV).drop off) := by intro off; rw [hH0]; simp [hb3, hb6, hb7]
  rw [← hH0]
  clear hH0
  clear hb3 hb6 hb7
  refine cL.use ?_
  simp
  intro b8 hb8
  have n6 := ne_fresh (e6 0) hb8
  have n7 := ne_fresh (e7 0) hb8
  simp [e6, e7, n6, n7]
  obtain ⟨H1, hH1⟩ : ∃ H1, H1 = H0.upd b8 (.cells [.int .i64 (l.k : Int), nrowsA l.next, boolsA l.good]) := ⟨_, rfl⟩
  have f6 : ∀ off, cellsAt H1 b6 off = some (([.int .i64 (x.k : Int), nrowsA x.next, boolsA x.good] : List AV).drop off) := by intro off; rw [hH1]; simp [n6, e6]
  have f7 : ∀ off, cellsAt H1 b7 off = some (([.int .i64 (y.k : Int), nrowsA y.next, boolsA y.good] : List AV).drop off) := by intro off; rw [hH1]; simp [n7, e7]
  have f8 : ∀ off, cellsAt H1 b8 off = some (([.int .i64 (l.k : Int), nrowsA l.next, boolsA l.good] : List AV).drop off) := by intro off; rw [hH1]; simp
  rw [← hH1]
  clear hH1 e6 e7 n6 n7 hb8
  have e6 := f6
  have e7 := f7
  have e8 := f8
  clear f6 f7 f8
  refine cR.use ?_
  simp
  intro b10 hb10
  have n6 := ne_fresh (e6 0) hb10
  have n7 := ne_fresh (e7 0) hb10
  have n8 := ne_fresh (e8 0) hb10
  simp [e6, e7, e8, n6, n7, n8]
  obtain ⟨H2, hH2⟩ : ∃ H2, H2 = H1.upd b10 (.cells [.int .i64 (r.k : Int), nrowsA r.next, boolsA r.good]) := ⟨_, rfl⟩
  have f6 : ∀ off, cellsAt H2 b6 off = some (([.int .i64 (x.k : Int), nrowsA x.next, boolsA x.good] : List AV).drop off) := by intro off; rw [hH2]; simp [n6, e6]
  have f7 : ∀ off, cellsAt H2 b7 off = some (([.int .i64 (y.k : Int), nrowsA y.next, boolsA y.good] : List AV).drop off) := by intro off; rw [hH2]; simp [n7, e7]
  have f8 : ∀ off, cellsAt H2 b8 off = some (([.int .i64 (l.k : Int), nrowsA l.next, boolsA l.good] : List AV).drop off) := by intro off; rw [hH2]; simp [n8, e8]
  have f10 : ∀ off, cellsAt H2 b10 off = some (([.int .i64 (r.k : Int), nrowsA r.next, boolsA r.good] : List AV).drop off) := by intro off; rw [hH2]; simp
  rw [← hH2]
  clear hH2 e6 e7 e8 n6 n7 n8 hb10
  have e6 := f6
  have e7 := f7
  have e8 := f8
  have e10 := f10
  clear f6 f7 f8 f10
  refine cS.use ?_
  simp
  intro b12 hb12
  have n6 := ne_fresh (e6 0) hb12
  have n7 := ne_fresh (e7 0) hb12
  have n8 := ne_fresh (e8 0) hb12
  have n10 := ne_fresh (e10 0) hb12
  simp [e6, e7, e8, e10, n6, n7, n8, n10]
  obtain ⟨H3, hH3⟩ : ∃ H3, H3 = H2.upd b12 (.cells [.int .i64 (l.k : Int), nrowsA l.next, boolsA l.good]) := ⟨_, rfl⟩
  have f6 : ∀ off, cellsAt H3 b6 off = some (([.int .i64 (x.k : Int), nrowsA x.next, boolsA x.good] : List AV).drop off) := by intro off; rw [hH3]; simp [n6, e6]
  have f7 : ∀ off, cellsAt H3 b7 off = some (([.int .i64 (y.k : Int), nrowsA y.next, boolsA y.good] : List AV).drop off) := by intro off; rw [hH3]; simp [n7, e7]
  have f8 : ∀ off, cellsAt H3 b8 off = some (([.int .i64 (l.k : Int), nrowsA l.next, boolsA l.good] : List AV).drop off) := by intro off; rw [hH3]; simp [n8, e8]
  have f10 : ∀ off, cellsAt H3 b10 off = some (([.int .i64 (r.k : Int), nrowsA r.next, boolsA r.good] : List AV).drop off) := by intro off; rw [hH3]; simp [n10, e10]
  have f12 : ∀ off, cellsAt H3 b12 off = some (([.int .i64 (l.k : Int), nrowsA l.next, boolsA l.good] : List AV).drop off) := by intro off; rw [hH3]; simp
  rw [← hH3]
  clear hH3 e6 e7 e8 e10 n6 n7 n8 n10 hb12
  have e6 := f6
  have e7 := f7
  have e8 := f8
  have e10 := f10
  have e12 := f12
  clear f6 f7 f8 f10 f12
  refine a1.use ?_
  simp [e6, e7, e8, e10, e12]
  refine cP.use ?_
  simp
  intro b14 hb14
  have n6 := ne_fresh (e6 0) hb14
  have n7 := ne_fresh (e7 0) hb14
  have n8 := ne_fresh (e8 0) hb14
  have n10 := ne_fresh (e10 0) hb14
  have n12 := ne_fresh (e12 0) hb14
  simp [e6, e7, e8, e10, e12, n6, n7, n8, n10, n12]
  obtain ⟨H4, hH4⟩ : ∃ H4, H4 = H3.upd b14 (.cells [.int .i64 (p.k : Int), nrowsA p.next, boolsA p.good]) := ⟨_, rfl⟩
  have f6 : ∀ off, cellsAt H4 b6 off = some (([.int .i64 (x.k : Int), nrowsA x.next, boolsA x.good] : List AV).drop off) := by intro off; rw [hH4]; simp [n6, e6]
  have f7 : ∀ off, cellsAt H4 b7 off = some (([.int .i64 (y.k : Int), nrowsA y.next, boolsA y.good] : List AV).drop off) := by intro off; rw [hH4]; simp [n7, e7]
  have f8 : ∀ off, cellsAt H4 b8 off = some (([.int .i64 (l.k : Int), nrowsA l.next, boolsA l.good] : List AV).drop off) := by intro off; rw [hH4]; simp [n8, e8]
  have f10 : ∀ off, cellsAt H4 b10 off = some (([.int .i64 (r.k : Int), nrowsA r.next, boolsA r.good] : List AV).drop off) := by intro off; rw [hH4]; simp [n10, e10]
  have f12 : ∀ off, cellsAt H4 b12 off = some (([.int .i64 (l.k : Int), nrowsA l.next, boolsA l.good] : List AV).drop off) := by intro off; rw [hH4]; simp [n12, e12]
  have f14 : ∀ off, cellsAt H4 b14 off = some (([.int .i64 (p.k : Int), nrowsA p.next, boolsA p.good] : List AV).drop off) := by intro off; rw [hH4]; simp
  rw [← hH4]
  clear hH4 e6 e7 e8 e10 e12 n6 n7 n8 n10 n12 hb14
  have e6 := f6
  have e7 := f7
  have e8 := f8
  have e10 := f10
  have e12 := f12
  have e14 := f14
  clear f6 f7 f8 f10 f12 f14
  refine cQ.use ?_
  simp
  intro b16 hb16
  have n6 := ne_fresh (e6 0) hb16
  have n7 := ne_fresh (e7 0) hb16
  have n8 := ne_fresh (e8 0) hb16
  have n10 := ne_fresh (e10 0) hb16
  have n12 := ne_fresh (e12 0) hb16
  have n14 := ne_fresh (e14 0) hb16
  simp [e6, e7, e8, e10, e12, e14, n6, n7, n8, n10, n12, n14]
  obtain ⟨H5, hH5⟩ : ∃ H5, H5 = H4.upd b16 (.cells [.int .i64 (p.k : Int), nrowsA p.next, boolsA p.good]) := ⟨_, rfl⟩
  have f6 : ∀ off, cellsAt H5 b6 off = some (([.int .i64 (x.k : Int), nrowsA x.next, boolsA x.good] : List AV).drop off) := by intro off; rw [hH5]; simp [n6, e6]
  have f7 : ∀ off, cellsAt H5 b7 off = some (([.int .i64 (y.k : Int), nrowsA y.next, boolsA y.good] : List AV).drop off) := by intro off; rw [hH5]; simp [n7, e7]
  have f8 : ∀ off, cellsAt H5 b8 off = some (([.int .i64 (l.k : Int), nrowsA l.next, boolsA l.good] : List AV).drop off) := by intro off; rw [hH5]; simp [n8, e8]
  have f10 : ∀ off, cellsAt H5 b10 off = some (([.int .i64 (r.k : Int), nrowsA r.next, boolsA r.good] : List AV).drop off) := by intro off; rw [hH5]; simp [n10, e10]
  have f12 : ∀ off, cellsAt H5 b12 off = some (([.int .i64 (l.k : Int), nrowsA l.next, boolsA l.good] : List AV).drop off) := by intro off; rw [hH5]; simp [n12, e12]
  have f14 : ∀ off, cellsAt H5 b14 off = some (([.int .i64 (p.k : Int), nrowsA p.next, boolsA p.good] : List AV).drop off) := by intro off; rw [hH5]; simp [n14, e14]
  have f16 : ∀ off, cellsAt H5 b16 off = some (([.int .i64 (p.k : Int), nrowsA p.next, boolsA p.good] : List AV).drop off) := by intro off; rw [hH5]; simp
  rw [← hH5]
  clear hH5 e6 e7 e8 e10 e12 e14 n6 n7 n8 n10 n12 n14 hb16
  have e6 := f6
  have e7 := f7
  have e8 := f8
  have e10 := f10
  have e12 := f12
  have e14 := f14
  have e16 := f16
  clear f6 f7 f8 f10 f12 f14 f16
  refine a2.use ?_
  simp [e6, e7, e8, e10, e12, e14, e16]
  refine cU.use ?_
  simp
  intro b18 hb18
  have n6 := ne_fresh (e6 0) hb18
  have n7 := ne_fresh (e7 0) hb18
  have n8 := ne_fresh (e8 0) hb18
  have n10 := ne_fresh (e10 0) hb18
  have n12 := ne_fresh (e12 0) hb18
  have n14 := ne_fresh (e14 0) hb18
  have n16 := ne_fresh (e16 0) hb18
  simp [e6, e7, e8, e10, e12, e14, e16, n6, n7, n8, n10, n12, n14, n16]
  obtain ⟨H6, hH6⟩ : ∃ H6, H6 = H5.upd b18 (.cells [.int .i64 (u.k : Int), nrowsA u.next, boolsA u.good]) := ⟨_, rfl⟩
  have f6 : ∀ off, cellsAt H6 b6 off = some (([.int .i64 (x.k : Int), nrowsA x.next, boolsA x.good] : List AV).drop off) := by intro off; rw [hH6]; simp [n6, e6]
  have f7 : ∀ off, cellsAt H6 b7 off = some (([.int .i64 (y.k : Int), nrowsA y.next, boolsA y.good] : List AV).drop off) := by intro off; rw [hH6]; simp [n7, e7]
  have f8 : ∀ off, cellsAt H6 b8 off = some (([.int .i64 (l.k : Int), nrowsA l.next, boolsA l.good] : List AV).drop off) := by intro off; rw [hH6]; simp [n8, e8]
  have f10 : ∀ off, cellsAt H6 b10 off = some (([.int .i64 (r.k : Int), nrowsA r.next, boolsA r.good] : List AV).drop off) := by intro off; rw [hH6]; simp [n10, e10]
  have f12 : ∀ off, cellsAt H6 b12 off = some (([.int .i64 (l.k : Int), nrowsA l.next, boolsA l.good] : List AV).drop off) := by intro off; rw [hH6]; simp [n12, e12]
  have f14 : ∀ off, cellsAt H6 b14 off = some (([.int .i64 (p.k : Int), nrowsA p.next, boolsA p.good] : List AV).drop off) := by intro off; rw [hH6]; simp [n14, e14]
  have f16 : ∀ off, cellsAt H6 b16 off = some (([.int .i64 (p.k : Int), nrowsA p.next, boolsA p.good] : List AV).drop off) := by intro off; rw [hH6]; simp [n16, e16]
  have f18 : ∀ off, cellsAt H6 b18 off = some (([.int .i64 (u.k : Int), nrowsA u.next, boolsA u.good] : List AV).drop off) := by intro off; rw [hH6]; simp
  rw [← hH6]
  clear hH6 e6 e7 e8 e10 e12 e14 e16 n6 n7 n8 n10 n12 n14 n16 hb18
  have e6 := f6
  have e7 := f7
  have e8 := f8
  have e10 := f10
  have e12 := f12
  have e14 := f14
  have e16 := f16
  have e18 := f18
  clear f6 f7 f8 f10 f12 f14 f16 f18
  refine cV.use ?_
  simp
  intro b20 hb20
  have n6 := ne_fresh (e6 0) hb20
  have n7 := ne_fresh (e7 0) hb20
  have n8 := ne_fresh (e8 0) hb20
  have n10 := ne_fresh (e10 0) hb20
  have n12 := ne_fresh (e12 0) hb20
  have n14 := ne_fresh (e14 0) hb20
  have n16 := ne_fresh (e16 0) hb20
  have n18 := ne_fresh (e18 0) hb20
  simp [e6, e7, e8, e10, e12, e14, e16, e18, n6, n7, n8, n10, n12, n14, n16, n18]
  obtain ⟨H7, hH7⟩ : ∃ H7, H7 = H6.upd b20 (.cells [.int .i64 (v.k : Int), nrowsA v.next, boolsA v.good]) := ⟨_, rfl⟩
  have f6 : ∀ off, cellsAt H7 b6 off = some (([.int .i64 (x.k : Int), nrowsA x.next, boolsA x.good] : List AV).drop off) := by intro off; rw [hH7]; simp [n6, e6]
  have f7 : ∀ off, cellsAt H7 b7 off = some (([.int .i64 (y.k : Int), nrowsA y.next, boolsA y.good] : List AV).drop off) := by intro off; rw [hH7]; simp [n7, e7]
  have f8 : ∀ off, cellsAt H7 b8 off = some (([.int .i64 (l.k : Int), nrowsA l.next, boolsA l.good] : List AV).drop off) := by intro off; rw [hH7]; simp [n8, e8]
  have f10 : ∀ off, cellsAt H7 b10 off = some (([.int .i64 (r.k : Int), nrowsA r.next, boolsA r.good] : List AV).drop off) := by intro off; rw [hH7]; simp [n10, e10]
  have f12 : ∀ off, cellsAt H7 b12 off = some (([.int .i64 (l.k : Int), nrowsA l.next, boolsA l.good] : List AV).drop off) := by intro off; rw [hH7]; simp [n12, e12]
  have f14 : ∀ off, cellsAt H7 b14 off = some (([.int .i64 (p.k : Int), nrowsA p.next, boolsA p.good] : List AV).drop off) := by intro off; rw [hH7]; simp [n14, e14]
  have f16 : ∀ off, cellsAt H7 b16 off = some (([.int .i64 (p.k : Int), nrowsA p.next, boolsA p.good] : List AV).drop off) := by intro off; rw [hH7]; simp [n16, e16]
  have f18 : ∀ off, cellsAt H7 b18 off = some (([.int .i64 (u.k : Int), nrowsA u.next, boolsA u.good] : List AV).drop off) := by intro off; rw [hH7]; simp [n18, e18]
  have f20 : ∀ off, cellsAt H7 b20 off = some (([.int .i64 (v.k : Int), nrowsA v.next, boolsA v.good] : List AV).drop off) := by intro off; rw [hH7]; simp
  rw [← hH7]
  clear hH7 e6 e7 e8 e10 e12 e14 e16 e18 n6 n7 n8 n10 n12 n14 n16 n18 hb20
  have e6 := f6
  have e7 := f7
  have e8 := f8
  have e10 := f10
  have e12 := f12
  have e14 := f14
  have e16 := f16
  have e18 := f18
  have e20 := f20
  clear f6 f7 f8 f10 f12 f14 f16 f18 f20
  refine cM.use ?_
  unfold keptA at cN ⊢
  by_cases hbig : 64 < Z.next.length
  · rw [if_pos hbig] at cN ⊢
    simp [noAuto]
    intro b22 hb22
    have n6 := ne_fresh (e6 0) hb22
    have n7 := ne_fresh (e7 0) hb22
    have n8 := ne_fresh (e8 0) hb22
    have n10 := ne_fresh (e10 0) hb22
    have n12 := ne_fresh (e12 0) hb22
    have n14 := ne_fresh (e14 0) hb22
    have n16 := ne_fresh (e16 0) hb22
    have n18 := ne_fresh (e18 0) hb22
    have n20 := ne_fresh (e20 0) hb22
    simp [e6, e7, e8, e10, e12, e14, e16, e18, e20, n6, n7, n8, n10, n12, n14, n16, n18, n20]
    obtain ⟨H8, hH8⟩ : ∃ H8, H8 = H7.upd b22 (.cells [.int .i64 0, .nilsl, .nilsl]) := ⟨_, rfl⟩
    have f6 : ∀ off, cellsAt H8 b6 off = some (([.int .i64 (x.k : Int), nrowsA x.next, boolsA x.good] : List AV).drop off) := by intro off; rw [hH8]; simp [n6, e6]
    have f7 : ∀ off, cellsAt H8 b7 off = some (([.int .i64 (y.k : Int), nrowsA y.next, boolsA y.good] : List AV).drop off) := by intro off; rw [hH8]; simp [n7, e7]
    have f8 : ∀ off, cellsAt H8 b8 off = some (([.int .i64 (l.k : Int), nrowsA l.next, boolsA l.good] : List AV).drop off) := by intro off; rw [hH8]; simp [n8, e8]
    have f10 : ∀ off, cellsAt H8 b10 off = some (([.int .i64 (r.k : Int), nrowsA r.next, boolsA r.good] : List AV).drop off) := by intro off; rw [hH8]; simp [n10, e10]
    have f12 : ∀ off, cellsAt H8 b12 off = some (([.int .i64 (l.k : Int), nrowsA l.next, boolsA l.good] : List AV).drop off) := by intro off; rw [hH8]; simp [n12, e12]
    have f14 : ∀ off, cellsAt H8 b14 off = some (([.int .i64 (p.k : Int), nrowsA p.next, boolsA p.good] : List AV).drop off) := by intro off; rw [hH8]; simp [n14, e14]
    have f16 : ∀ off, cellsAt H8 b16 off = some (([.int .i64 (p.k : Int), nrowsA p.next, boolsA p.good] : List AV).drop off) := by intro off; rw [hH8]; simp [n16, e16]
    have f18 : ∀ off, cellsAt H8 b18 off = some (([.int .i64 (u.k : Int), nrowsA u.next, boolsA u.good] : List AV).drop off) := by intro off; rw [hH8]; simp [n18, e18]
    have f20 : ∀ off, cellsAt H8 b20 off = some (([.int .i64 (v.k : Int), nrowsA v.next, boolsA v.good] : List AV).drop off) := by intro off; rw [hH8]; simp [n20, e20]
    have f22 : ∀ off, cellsAt H8 b22 off = some (([.int .i64 0, .nilsl, .nilsl] : List AV).drop off) := by intro off; rw [hH8]; simp
    rw [← hH8]
    clear hH8 e6 e7 e8 e10 e12 e14 e16 e18 e20 n6 n7 n8 n10 n12 n14 n16 n18 n20 hb22
    have e6 := f6
    have e7 := f7
    have e8 := f8
    have e10 := f10
    have e12 := f12
    have e14 := f14
    have e16 := f16
    have e18 := f18
    have e20 := f20
    have e22 := f22
    clear f6 f7 f8 f10 f12 f14 f16 f18 f20 f22
    refine cN.use ?_
    simp [noAuto]
    intro b24 hb24
    have n6 := ne_fresh (e6 0) hb24
    have n7 := ne_fresh (e7 0) hb24
    have n8 := ne_fresh (e8 0) hb24
    have n10 := ne_fresh (e10 0) hb24
    have n12 := ne_fresh (e12 0) hb24
    have n14 := ne_fresh (e14 0) hb24
    have n16 := ne_fresh (e16 0) hb24
    have n18 := ne_fresh (e18 0) hb24
    have n20 := ne_fresh (e20 0) hb24
    have n22 := ne_fresh (e22 0) hb24
    simp [e6, e7, e8, e10, e12, e14, e16, e18, e20, e22, n6, n7, n8, n10, n12, n14, n16, n18, n20, n22]
    obtain ⟨H9, hH9⟩ : ∃ H9, H9 = H8.upd b24 (.cells [.int .i64 0, .nilsl, .nilsl]) := ⟨_, rfl⟩
    have f6 : ∀ off, cellsAt H9 b6 off = some (([.int .i64 (x.k : Int), nrowsA x.next, boolsA x.good] : List AV).drop off) := by intro off; rw [hH9]; simp [n6, e6]
    have f7 : ∀ off, cellsAt H9 b7 off = some (([.int .i64 (y.k : Int), nrowsA y.next, boolsA y.good] : List AV).drop off) := by intro off; rw [hH9]; simp [n7, e7]
    have f8 : ∀ off, cellsAt H9 b8 off = some (([.int .i64 (l.k : Int), nrowsA l.next, boolsA l.good] : List AV).drop off) := by intro off; rw [hH9]; simp [n8, e8]
    have f10 : ∀ off, cellsAt H9 b10 off = some (([.int .i64 (r.k : Int), nrowsA r.next, boolsA r.good] : List AV).drop off) := by intro off; rw [hH9]; simp [n10, e10]
    have f12 : ∀ off, cellsAt H9 b12 off = some (([.int .i64 (l.k : Int), nrowsA l.next, boolsA l.good] : List AV).drop off) := by intro off; rw [hH9]; simp [n12, e12]
    have f14 : ∀ off, cellsAt H9 b14 off = some (([.int .i64 (p.k : Int), nrowsA p.next, boolsA p.good] : List AV).drop off) := by intro off; rw [hH9]; simp [n14, e14]
    have f16 : ∀ off, cellsAt H9 b16 off = some (([.int .i64 (p.k : Int), nrowsA p.next, boolsA p.good] : List AV).drop off) := by intro off; rw [hH9]; simp [n16, e16]
    have f18 : ∀ off, cellsAt H9 b18 off = some (([.int .i64 (u.k : Int), nrowsA u.next, boolsA u.good] : List AV).drop off) := by intro off; rw [hH9]; simp [n18, e18]
    have f20 : ∀ off, cellsAt H9 b20 off = some (([.int .i64 (v.k : Int), nrowsA v.next, boolsA v.good] : List AV).drop off) := by intro off; rw [hH9]; simp [n20, e20]
    have f22 : ∀ off, cellsAt H9 b22 off = some (([.int .i64 0, .nilsl, .nilsl] : List AV).drop off) := by intro off; rw [hH9]; simp [n22, e22]
    have f24 : ∀ off, cellsAt H9 b24 off = some (([.int .i64 0, .nilsl, .nilsl] : List AV).drop off) := by intro off; rw [hH9]; simp
    rw [← hH9]
    clear hH9 e6 e7 e8 e10 e12 e14 e16 e18 e20 e22 n6 n7 n8 n10 n12 n14 n16 n18 n20 n22 hb24
    have e6 := f6
    have e7 := f7
    have e8 := f8
    have e10 := f10
    have e12 := f12
    have e14 := f14
    have e16 := f16
    have e18 := f18
    have e20 := f20
    have e22 := f22
    have e24 := f24
    clear f6 f7 f8 f10 f12 f14 f16 f18 f20 f22 f24
    refine w_awake.use ?_
    simp
    exact finA_drop rfl
  · rw [if_neg hbig] at cN ⊢
    simp only [Dfa.av] at cN ⊢
    simp
    intro b22 hb22
    have n6 := ne_fresh (e6 0) hb22
    have n7 := ne_fresh (e7 0) hb22
    have n8 := ne_fresh (e8 0) hb22
    have n10 := ne_fresh (e10 0) hb22
    have n12 := ne_fresh (e12 0) hb22
    have n14 := ne_fresh (e14 0) hb22
    have n16 := ne_fresh (e16 0) hb22
    have n18 := ne_fresh (e18 0) hb22
    have n20 := ne_fresh (e20 0) hb22
    simp [e6, e7, e8, e10, e12, e14, e16, e18, e20, n6, n7, n8, n10, n12, n14, n16, n18, n20]
    obtain ⟨H8, hH8⟩ : ∃ H8, H8 = H7.upd b22 (.cells [.int .i64 (Z.k : Int), nrowsA Z.next, boolsA Z.good]) := ⟨_, rfl⟩
    have f6 : ∀ off, cellsAt H8 b6 off = some (([.int .i64 (x.k : Int), nrowsA x.next, boolsA x.good] : List AV).drop off) := by intro off; rw [hH8]; simp [n6, e6]
    have f7 : ∀ off, cellsAt H8 b7 off = some (([.int .i64 (y.k : Int), nrowsA y.next, boolsA y.good] : List AV).drop off) := by intro off; rw [hH8]; simp [n7, e7]
    have f8 : ∀ off, cellsAt H8 b8 off = some (([.int .i64 (l.k : Int), nrowsA l.next, boolsA l.good] : List AV).drop off) := by intro off; rw [hH8]; simp [n8, e8]
    have f10 : ∀ off, cellsAt H8 b10 off = some (([.int .i64 (r.k : Int), nrowsA r.next, boolsA r.good] : List AV).drop off) := by intro off; rw [hH8]; simp [n10, e10]
    have f12 : ∀ off, cellsAt H8 b12 off = some (([.int .i64 (l.k : Int), nrowsA l.next, boolsA l.good] : List AV).drop off) := by intro off; rw [hH8]; simp [n12, e12]
    have f14 : ∀ off, cellsAt H8 b14 off = some (([.int .i64 (p.k : Int), nrowsA p.next, boolsA p.good] : List AV).drop off) := by intro off; rw [hH8]; simp [n14, e14]
    have f16 : ∀ off, cellsAt H8 b16 off = some (([.int .i64 (p.k : Int), nrowsA p.next, boolsA p.good] : List AV).drop off) := by intro off; rw [hH8]; simp [n16, e16]
    have f18 : ∀ off, cellsAt H8 b18 off = some (([.int .i64 (u.k : Int), nrowsA u.next, boolsA u.good] : List AV).drop off) := by intro off; rw [hH8]; simp [n18, e18]
    have f20 : ∀ off, cellsAt H8 b20 off = some (([.int .i64 (v.k : Int), nrowsA v.next, boolsA v.good] : List AV).drop off) := by intro off; rw [hH8]; simp [n20, e20]
    have f22 : ∀ off, cellsAt H8 b22 off = some (([.int .i64 (Z.k : Int), nrowsA Z.next, boolsA Z.good] : List AV).drop off) := by intro off; rw [hH8]; simp
    rw [← hH8]
    clear hH8 e6 e7 e8 e10 e12 e14 e16 e18 e20 n6 n7 n8 n10 n12 n14 n16 n18 n20 hb22
    have e6 := f6
    have e7 := f7
    have e8 := f8
    have e10 := f10
    have e12 := f12
    have e14 := f14
    have e16 := f16
    have e18 := f18
    have e20 := f20
    have e22 := f22
    clear f6 f7 f8 f10 f12 f14 f16 f18 f20 f22
    refine cN.use ?_
    simp
    intro b24 hb24
    have n6 := ne_fresh (e6 0) hb24
    have n7 := ne_fresh (e7 0) hb24
    have n8 := ne_fresh (e8 0) hb24
    have n10 := ne_fresh (e10 0) hb24
    have n12 := ne_fresh (e12 0) hb24
    have n14 := ne_fresh (e14 0) hb24
    have n16 := ne_fresh (e16 0) hb24
    have n18 := ne_fresh (e18 0) hb24
    have n20 := ne_fresh (e20 0) hb24
    have n22 := ne_fresh (e22 0) hb24
    simp [e6, e7, e8, e10, e12, e14, e16, e18, e20, e22, n6, n7, n8, n10, n12, n14, n16, n18, n20, n22]
    obtain ⟨H9, hH9⟩ : ∃ H9, H9 = H8.upd b24 (.cells [.int .i64 (Z.k : Int), nrowsA Z.next, boolsA Z.good]) := ⟨_, rfl⟩
    have f6 : ∀ off, cellsAt H9 b6 off = some (([.int .i64 (x.k : Int), nrowsA x.next, boolsA x.good] : List AV).drop off) := by intro off; rw [hH9]; simp [n6, e6]
    have f7 : ∀ off, cellsAt H9 b7 off = some (([.int .i64 (y.k : Int), nrowsA y.next, boolsA y.good] : List AV).drop off) := by intro off; rw [hH9]; simp [n7, e7]
    have f8 : ∀ off, cellsAt H9 b8 off = some (([.int .i64 (l.k : Int), nrowsA l.next, boolsA l.good] : List AV).drop off) := by intro off; rw [hH9]; simp [n8, e8]
    have f10 : ∀ off, cellsAt H9 b10 off = some (([.int .i64 (r.k : Int), nrowsA r.next, boolsA r.good] : List AV).drop off) := by intro off; rw [hH9]; simp [n10, e10]
    have f12 : ∀ off, cellsAt H9 b12 off = some (([.int .i64 (l.k : Int), nrowsA l.next, boolsA l.good] : List AV).drop off) := by intro off; rw [hH9]; simp [n12, e12]
    have f14 : ∀ off, cellsAt H9 b14 off = some (([.int .i64 (p.k : Int), nrowsA p.next, boolsA p.good] : List AV).drop off) := by intro off; rw [hH9]; simp [n14, e14]
    have f16 : ∀ off, cellsAt H9 b16 off = some (([.int .i64 (p.k : Int), nrowsA p.next, boolsA p.good] : List AV).drop off) := by intro off; rw [hH9]; simp [n16, e16]
    have f18 : ∀ off, cellsAt H9 b18 off = some (([.int .i64 (u.k : Int), nrowsA u.next, boolsA u.good] : List AV).drop off) := by intro off; rw [hH9]; simp [n18, e18]
    have f20 : ∀ off, cellsAt H9 b20 off = some (([.int .i64 (v.k : Int), nrowsA v.next, boolsA v.good] : List AV).drop off) := by intro off; rw [hH9]; simp [n20, e20]
    have f22 : ∀ off, cellsAt H9 b22 off = some (([.int .i64 (Z.k : Int), nrowsA Z.next, boolsA Z.good] : List AV).drop off) := by intro off; rw [hH9]; simp [n22, e22]
    have f24 : ∀ off, cellsAt H9 b24 off = some (([.int .i64 (Z.k : Int), nrowsA Z.next, boolsA Z.good] : List AV).drop off) := by intro off; rw [hH9]; simp
    rw [← hH9]
    clear hH9 e6 e7 e8 e10 e12 e14 e16 e18 e20 e22 n6 n7 n8 n10 n12 n14 n16 n18 n20 n22 hb24
    have e6 := f6
    have e7 := f7
    have e8 := f8
    have e10 := f10
    have e12 := f12
    have e14 := f14
    have e16 := f16
    have e18 := f18
    have e20 := f20
    have e22 := f22
    have e24 := f24
    clear f6 f7 f8 f10 f12 f14 f16 f18 f20 f22 f24
    refine a3.use ?_
    simp
    refine w_awake.use ?_
    simp
    exact finA_drop rfl
end Go.Proofs
