/-
  Ring: the law RingSteps.
-/
import Derived.Test.YtobdaaoefbgilaaRgH0
set_option linter.unusedSimpArgs false
set_option linter.unusedVariables false
set_option linter.unusedSectionVars false
namespace Go.Proofs
open Go Go.AH
set_option maxRecDepth 10000
set_option maxHeartbeats 4000000

theorem intsA_inj {a b : List Int} (e : intsA a = intsA b) : a = b := by
  simp only [intsA, AV.sl.injEq] at e
  exact (List.map_inj_right (fun x y h => by injection h)).1 e.2
theorem gam_two {f : AV} {a b : List Int} {k : AV} {F : List Int → AV} {Γ : Gam} : gamGet ((f, [intsA a, k], F a) :: (f, [intsA b, k], F b) :: Γ) f [intsA b, k] = some (F b) := by
  by_cases e : a = b
  · subst e; exact gamGet_here
  · rw [gamGet_cons, if_neg (fun q => e (intsA_inj (by have := q.2; simpa using this)))]
    exact gamGet_here

def newL (l1 AI : List Int) : Nat → List Int
  | 0 => []
  | i + 1 => if l1.length ≤ i ∨ (l1.getD i 0).tmod 2 = 0 then newL l1 AI i ++ [AI.getD i 0] else newL l1 AI i
theorem newL_len (l1 AI : List Int) : ∀ i, (newL l1 AI i).length ≤ i
  | 0 => Nat.le_refl _
  | i + 1 => by
    have := newL_len l1 AI i
    unfold newL
    split
    · simp; omega
    · omega
theorem stepE_zero {r : Rul} {l ms : List Int} (h : stepE r l ms = 0) : (∀ i ∈ natI ms, i < r.m ∧ 0 ≤ takesF r (natI l) i) ∧ listI ms = natsA (natI ms) := by
  unfold stepE at h
  split at h
  · next q => exact absurd h q
  · split at h
    · cases h
    · next hb =>
      split at h
      · cases h
      · next hms =>
        split at h
        · cases h
        · next ha =>
          have hin := badM_ok (by simpa using hb : badM r.m (-1) ms = false)
          constructor
          · intro i hi
            obtain ⟨x, hx, rfl⟩ := List.mem_map.1 hi
            have := hin x hx
            have h2 := List.any_eq_false.1 (by simpa using ha : ms.any (fun i => decide (takesF r (natI l) i.toNat < 0)) = false) x hx
            simp at h2
            omega
          · rw [listI_ne hms]
            unfold natsA intsA
            rw [natI_len]
            congr 1
            unfold natI
            rw [List.map_map]
            apply List.map_congr_left
            intro x hx
            have := hin x hx
            simp only [Function.comp_apply]
            congr 1
            omega

structure SQ where
  k : Nat
  c : List Int
  m : List Int
  n : Int
structure NW where
  k : Nat
  W : Int
theorem l_RingSteps (mach col : Int) (next : List (List Int)) (l0 l1 : List Int) (n0 : Int) (hn : next.length ≤ 20000000000000) (hrl : ∀ row ∈ next, row.length ≤ 20000000000000) (hl0 : l0.length ≤ 20000000000000) (hl1 : l1.length ≤ 20000000000000) :
    Pure Try.prog 4 [.agg [.int .i64 mach, .int .i64 col, rowsA next], .agg [intsA l0, intsA l1], .int .i64 n0] (.bool true) := by
  refine pure_of (acalls_of Try.func4 rfl Try.call4 (by kernel_rfl) (by show _ ≤ (283 : Nat); simp) ?_)
  have hr := tame_ok mach next n0
  have ct := l_tame mach col next n0 hn hrl
  obtain ⟨r, hre⟩ : ∃ r, r = tameF mach next n0 := ⟨_, rfl⟩
  rw [← hre] at hr ct
  have q1 := hr.m2; have q2 := hr.m6; have q3 := hr.c2; have q4 := hr.c6; have q5 := hr.sz
  have cg := l_give r
  have hCl := confF_len r l0
  have hCn : ¬ confF r l0 = [] := fun e => by rw [e] at hCl; simp at hCl; omega
  obtain ⟨CI, hCI⟩ : ∃ CI, CI = (confF r l0).map fun x : Nat => (x : Int) := ⟨_, rfl⟩
  obtain ⟨AI, hAI⟩ : ∃ AI, AI = readyI r (confF r l0) := ⟨_, rfl⟩
  have hCIl : CI.length ≤ 6 := by rw [hCI]; simp; omega
  have hAIl : AI.length ≤ 6 := by have := readyI_len r (confF r l0); rw [← hAI] at this; omega
  have hCa : natsA (confF r l0) = listI CI := by rw [nats_ints, hCI, listI_ne (by simpa using hCn)]
  have e1 := l_config r hr l0 hl0
  have e2 := r_Ready r hr (confF r l0) (confF_cfg hr l0)
  rw [listA_I] at e2
  change AH.Pure Try.prog _ _ (listI (readyI r (confF r l0))) at e2
  rw [← hAI] at e2
  rw [hCa] at e1 e2
  have cw0 := l_rawP l0 8 hl0 (by omega)
  have cw1 := l_rawP l1 8 hl1 (by omega)
  have hav : r.av = .agg [.int .i64 r.m, .int .i64 r.c, rowsA r.next] := rfl
  rw [hav] at ct cg e1 e2
  simp
  intro b3 hb3
  simp
  intro b4 hb4
  simp at hb4
  simp [hb4]
  refine ct.use ?_
  simp
  intro b7 hb7
  simp at hb7
  simp [hb4, hb7]
  refine cg.use ?_
  simp
  intro b8 hb8
  simp at hb8
  simp [hb4, hb7, hb8]
  refine awp_draw_text (by kernel_rfl) [36, 39] [(.fn (.func 13) [] [], [intsA l0, .int .i64 8], listI (l0.take 8)), (.fn (.func 13) [] [], [intsA l1, .int .i64 8], listI (l1.take 8))] (by kernel_rfl) (by kernel_rfl) (by simp; exact ⟨PureV.of cw0, PureV.of cw1⟩) ?_
  have hg2 := gam_two (f := .fn (.func 13) [] []) (a := l0) (b := l1) (k := .int .i64 8) (F := fun l => listI (l.take 8)) (Γ := [])
  simp [hb4, hb7, hb8, gamGet_here, hg2]
  obtain ⟨H, hH⟩ : ∃ H, H = (((AHeap.empty.upd b3 (.cells [.int .i64 mach, .int .i64 col, rowsA next])).upd b4 (.cells [intsA l0, intsA l1])).upd b7 (.cells [.int .i64 r.m, .int .i64 r.c, rowsA r.next])).upd b8 (.cells [.int .i64 r.m, .int .i64 r.c, rowsA r.next]) := ⟨_, rfl⟩
  have e4 : ∀ off, cellsAt H b4 off = some (([intsA l0, intsA l1] : List AV).drop off) := by intro off; rw [hH]; simp [hb4, hb7, hb8]
  have e7 : ∀ off, cellsAt H b7 off = some (([.int .i64 r.m, .int .i64 r.c, rowsA r.next] : List AV).drop off) := by intro off; rw [hH]; simp [hb4, hb7, hb8]
  have e8 : ∀ off, cellsAt H b8 off = some (([.int .i64 r.m, .int .i64 r.c, rowsA r.next] : List AV).drop off) := by intro off; rw [hH]; simp [hb4, hb7, hb8]
  rw [← hH]
  clear hH
  refine awp_loop_g (γ := SQ) (fun q t h => (q.k ≤ 2) ∧ (q.c.length ≤ 8) ∧ (q.m.length ≤ 8) ∧ t 2 = .int .i64 q.n ∧ t 3 = .ptr b3 0 ∧ t 4 = .ptr b4 0 ∧ t 7 = .ptr b7 0 ∧ t 8 = .ptr b8 0 ∧ t 9 = listI q.c ∧ t 10 = listI q.m ∧ t 11 = .int .i64 q.k ∧ h = H) (fun q => 2 - q.k) (⟨0, l0.take 8, l1.take 8, n0⟩) (turnA_self (by simp; omega)) ?_
  rintro q t hx ⟨hk, hc, hm, h2, h3, h4, h7, h8, h9, h10, h11, ex⟩
  rw [ex]
  clear ex
  obtain ⟨k, c, m, n⟩ := q
  simp only at h2 h3 h4 h7 h8 h9 h10 h11 hk hc hm
  by_cases hlt : k < 2
  · have hltI : (k : Int) < 2 := by omega
    have hwk : IntKind.i64.wrap ((k : Int) + 1) = (k : Int) + 1 := wrap_i64 (by omega) (by omega)
    have d1 := w_Number r hr c (by omega)
    have d2 := w_Ready r hr c (by omega)
    have d3 := w_Step r hr c (by omega) m (by omega)
    have d4 := r_Config r hr c (by omega)
    rw [hav] at d1 d2 d3 d4
    simp [h2, h3, h4, h7, h8, h9, h10, h11, hltI, e8]
    refine d1.use ?_
    simp [h2, h3, h4, h7, h8, h9, h10, h11, e8]
    refine d2.use ?_
    simp [h2, h3, h4, h7, h8, h9, h10, h11, e8]
    refine d3.use ?_
    simp [h2, h3, h4, h7, h8, h9, h10, h11, e7]
    refine d4.use ?_
    by_cases he : confE r c = 0
    · have hcfg := conf_cfg he
      have hcl := conf_list hr he
      have d5 := r_Ready r hr (natI c) hcfg
      have d6 := r_Number r hr (natI c) hcfg
      rw [← hcl, hav] at d5 d6
      rw [listA_I] at d5
      change AH.Pure Try.prog _ _ (listI (readyI r (natI c))) at d5
      obtain ⟨RI, hRI⟩ : ∃ RI, RI = readyI r (natI c) := ⟨_, rfl⟩
      rw [← hRI] at d5
      have hlA : listA (readyF r (natI c)) = listI RI := by rw [listA_I, hRI]; rfl
      have hRl : RI.length ≤ 6 := by have := readyI_len r (natI c); rw [← hRI] at this; omega
      have d7 := l_same RI RI (by omega) (by omega)
      simp [h2, h3, h4, h7, h8, h9, h10, h11, he, e7, hlA]
      refine d5.use ?_
      simp [h2, h3, h4, h7, h8, h9, h10, h11, he, e7]
      refine d6.use ?_
      simp [h2, h3, h4, h7, h8, h9, h10, h11]
      refine d7.use ?_
      simp [h2, h3, h4, h7, h8, h9, h10, h11, -lenA, lenA_listI]
      obtain ⟨E, hE⟩ : ∃ E, E = stepE r c m := ⟨_, rfl⟩
      obtain ⟨sv, hsv⟩ : ∃ sv, sv = (if stepE r c m = 0 then natsA (stepF r (natI c) (natI m)) else .nilsl) := ⟨_, rfl⟩
      rw [← hsv, ← hE]
      refine condA_cut (fun t hq => t 2 = .int .i64 n ∧ t 3 = .ptr b3 0 ∧ t 4 = .ptr b4 0 ∧ t 7 = .ptr b7 0 ∧ t 8 = .ptr b8 0 ∧ t 9 = listI c ∧ t 10 = listI m ∧ t 11 = .int .i64 k ∧ t 16 = sv ∧ t 17 = .int .i64 E ∧ t 18 = .int .i64 (if m = [] then 1 else 0) ∧ t 19 = listI RI ∧ hq = H) ?_ ?_
      · refine condA_dec (fun e => ?_) (fun e => ?_)
        · simp [h2, h3, h4, h7, h8, h9, h10, h11, e]
        · simp [h2, h3, h4, h7, h8, h9, h10, h11, e]
      intro t hq ⟨h2, h3, h4, h7, h8, h9, h10, h11, h16, h17, h18, h19, ehq⟩
      rw [ehq]
      clear ehq
      simp [h2, h3, h4, h7, h8, h9, h10, h11, h16, h17, h18, h19]
      refine loop_cut (fun t hq => t 2 = .int .i64 n ∧ t 3 = .ptr b3 0 ∧ t 4 = .ptr b4 0 ∧ t 7 = .ptr b7 0 ∧ t 8 = .ptr b8 0 ∧ t 9 = listI c ∧ t 10 = listI m ∧ t 11 = .int .i64 k ∧ t 16 = sv ∧ t 17 = .int .i64 E ∧ t 19 = listI RI ∧ t 18 = .int .i64 (if m = [] ∨ badM r.m (-1) m = true then 1 else 0) ∧ hq = H) ?_ ?_
      · skip
        refine awp_loop_g (γ := NW) (fun p t h => (p.k ≤ m.length) ∧ ((p.W = 0 ∧ m ≠ [] ∧ badM r.m (-1) m = badM r.m (lastM m p.k) (m.drop p.k) ∧ -1 ≤ lastM m p.k) ∨ (p.W = 1 ∧ (m = [] ∨ badM r.m (-1) m = true))) ∧ t 2 = .int .i64 n ∧ t 3 = .ptr b3 0 ∧ t 4 = .ptr b4 0 ∧ t 7 = .ptr b7 0 ∧ t 8 = .ptr b8 0 ∧ t 9 = listI c ∧ t 10 = listI m ∧ t 11 = .int .i64 k ∧ t 16 = sv ∧ t 17 = .int .i64 E ∧ t 19 = listI RI ∧ t 18 = .int .i64 p.W ∧ t 20 = .int .i64 p.k ∧ h = H) (fun p => m.length - p.k) (⟨0, if m = [] then 1 else 0⟩) (turnA_self (by by_cases hm0 : m = [] <;> simp [h2, h3, h4, h7, h8, h9, h10, h11, h16, h17, h18, h19, hm0, lastM])) ?_
        rintro p t hx ⟨hkp, hW, h2, h3, h4, h7, h8, h9, h10, h11, h16, h17, h19, h18, h20, ex⟩
        rw [ex]
        clear ex
        obtain ⟨i, W⟩ := p
        simp only at h2 h3 h4 h7 h8 h9 h10 h11 h16 h17 h19 h18 h20 hkp hW
        by_cases hin : i < m.length ∧ W = 0
        · obtain ⟨hin, hW0⟩ := hin
          subst hW0
          have hm0 : m ≠ [] := fun e => by rw [e] at hin; simp at hin
          have hbad : badM r.m (-1) m = badM r.m (lastM m i) (m.drop i) ∧ -1 ≤ lastM m i := by
            rcases hW with ⟨_, _, q⟩ | ⟨q, _⟩
            · exact q
            · cases q
          obtain ⟨hbad, hlast⟩ := hbad
          rw [badM_drop hin] at hbad
          obtain ⟨x, hx⟩ : ∃ x, x = m[i] := ⟨_, rfl⟩
          have hx' : m[i]'hin = x := hx.symm
          have hnx : lastM m (i + 1) = x := by simp [lastM, hin, hx]
          rw [hx'] at hbad
          have hinI : (i : Int) < (m.length : Int) := by omega
          have hwi : IntKind.i64.wrap ((i : Int) + 1) = (i : Int) + 1 := wrap_i64 (by omega) (by omega)
          have hml : listI m = .sl m.length (m.map (.int .i64)) := by rw [listI_ne hm0]; rfl
          have hmx : ∀ Z : AV, (∀ e : Bool, True) := fun _ _ => trivial
          simp [h2, h3, h4, h7, h8, h9, h10, h11, h16, h17, h19, h18, h20, hml, hin, hinI]
          refine awp_draw_text (by kernel_rfl) [] [] (by kernel_rfl) (by kernel_rfl) (by simp) ?_
          by_cases g1 : x < 0
          · have hb1 : badM r.m (-1) m = true := by rw [hbad]; simp only [Bool.or_eq_true, decide_eq_true_eq]; left; left; omega
            simp [h2, h3, h4, h7, h8, h9, h10, h11, h16, h17, h19, h18, h20, hml, hin, hinI, hx', g1]
            exact turnA_self ⟨⟨i + 1, 1⟩, by simp only; omega, by simp only; omega, .inr ⟨rfl, .inr hb1⟩, by simp [h2, h3, h4, h7, h8, h9, h10, h11, h16, h17, h19, h18, h20, hml, hwi]⟩
          · by_cases g2 : (r.m : Int) ≤ x
            · have hb1 : badM r.m (-1) m = true := by rw [hbad]; simp only [Bool.or_eq_true, decide_eq_true_eq]; left; right; exact g2
              simp [h2, h3, h4, h7, h8, h9, h10, h11, h16, h17, h19, h18, h20, hml, hin, hinI, hx', g1, g2, e7]
              exact turnA_self ⟨⟨i + 1, 1⟩, by simp only; omega, by simp only; omega, .inr ⟨rfl, .inr hb1⟩, by simp [h2, h3, h4, h7, h8, h9, h10, h11, h16, h17, h19, h18, h20, hml, hwi]⟩
            · by_cases g3 : 0 < i
              · have g3I : (0 : Int) < (i : Int) := by omega
                have hi1 : i - 1 < m.length := by omega
                have hlm : lastM m i = m[i - 1] := by
                  have : ¬ i = 0 := by omega
                  simp [lastM, this, hi1]
                have hsub : IntKind.i64.wrap ((i : Int) - 1) = ((i - 1 : Nat) : Int) := by rw [wrap_i64 (by omega) (by omega)]; omega
                obtain ⟨y, hy⟩ : ∃ y, y = m[i - 1] := ⟨_, rfl⟩
                have hy' : m[i - 1]'hi1 = y := hy.symm
                rw [hy'] at hlm
                have hi1I : ((i - 1 : Nat) : Int) < (m.length : Int) := by omega
                by_cases g4 : x ≤ y
                · have hb1 : badM r.m (-1) m = true := by rw [hbad, hlm]; simp [g4]
                  simp [h2, h3, h4, h7, h8, h9, h10, h11, h16, h17, h19, h18, h20, hml, hin, hinI, hx', g1, g2, g3, g3I, e7, hsub, hi1, hi1I, hy', g4]
                  exact turnA_self ⟨⟨i + 1, 1⟩, by simp only; omega, by simp only; omega, .inr ⟨rfl, .inr hb1⟩, by simp [h2, h3, h4, h7, h8, h9, h10, h11, h16, h17, h19, h18, h20, hml, hwi]⟩
                · have hb1 : badM r.m (-1) m = badM r.m (lastM m (i + 1)) (m.drop (i + 1)) := by rw [hbad, hlm]; simp [g4, g2]
                  simp [h2, h3, h4, h7, h8, h9, h10, h11, h16, h17, h19, h18, h20, hml, hin, hinI, hx', g1, g2, g3, g3I, e7, hsub, hi1, hi1I, hy', g4]
                  exact turnA_self ⟨⟨i + 1, 0⟩, by simp only; omega, by simp only; omega, .inl ⟨rfl, hm0, hb1, by rw [hnx]; omega⟩, by simp [h2, h3, h4, h7, h8, h9, h10, h11, h16, h17, h19, h18, h20, hml, hwi]⟩
              · have hi0 : i = 0 := by omega
                subst hi0
                have hl0 : lastM m 0 = -1 := rfl
                have g0 : ¬ x ≤ -1 := by omega
                have hb1 : badM r.m (-1) m = badM r.m (lastM m (0 + 1)) (m.drop (0 + 1)) := by rw [hbad, hl0]; simp [g0, g2]
                simp [h2, h3, h4, h7, h8, h9, h10, h11, h16, h17, h19, h18, h20, hml, hin, hinI, hx', g1, g2, e7]
                exact turnA_self ⟨⟨0 + 1, 0⟩, by simp only; omega, by simp only; omega, .inl ⟨rfl, hm0, hb1, by rw [hnx]; omega⟩, by simp [h2, h3, h4, h7, h8, h9, h10, h11, h16, h17, h19, h18, h20, hml]⟩
        · have hWE : W = (if m = [] ∨ badM r.m (-1) m = true then 1 else 0) := by
            rcases hW with ⟨q1, q2, q3, _⟩ | ⟨q1, q2⟩
            · have : i = m.length := by
                have : ¬ i < m.length := fun q => hin ⟨q, q1⟩
                omega
              have hb0 : badM r.m (-1) m = false := by rw [q3, this, List.drop_length]; rfl
              rw [if_neg (by simp [q2, hb0]), q1]
            · rw [if_pos q2, q1]
          by_cases hiL : i < m.length
          · have hW0 : ¬ W = 0 := fun q => hin ⟨hiL, q⟩
            have hinI : (i : Int) < (m.length : Int) := by omega
            simp [h2, h3, h4, h7, h8, h9, h10, h11, h16, h17, h19, h18, h20, -lenA, lenA_listI, hinI, hiL, hW0]
            exact hWE
          · have hinI : ¬ (i : Int) < (m.length : Int) := by omega
            simp [h2, h3, h4, h7, h8, h9, h10, h11, h16, h17, h19, h18, h20, -lenA, lenA_listI, hinI, hiL]
            exact hWE
      intro t hq ⟨h2, h3, h4, h7, h8, h9, h10, h11, h16, h17, h19, h18, ehq⟩
      rw [ehq]
      clear ehq
      simp [h2, h3, h4, h7, h8, h9, h10, h11, h16, h17, h19, h18]
      refine loop_cut (fun t hq => t 2 = .int .i64 n ∧ t 3 = .ptr b3 0 ∧ t 4 = .ptr b4 0 ∧ t 7 = .ptr b7 0 ∧ t 8 = .ptr b8 0 ∧ t 9 = listI c ∧ t 10 = listI m ∧ t 11 = .int .i64 k ∧ t 16 = sv ∧ t 17 = .int .i64 E ∧ t 18 = .int .i64 E ∧ hq = H) ?_ ?_
      · skip
        obtain ⟨W0, hW0e⟩ : ∃ W0 : Int, W0 = (if m = [] ∨ badM r.m (-1) m = true then 1 else 0) := ⟨_, rfl⟩
        have hst : (W0 = 0 ∧ m ≠ [] ∧ badM r.m (-1) m = false) ∨ (¬ W0 = 0 ∧ W0 = E) := by
          by_cases hb0 : m = [] ∨ badM r.m (-1) m = true
          · rw [if_pos hb0] at hW0e
            right
            refine ⟨by omega, ?_⟩
            rw [hW0e, hE]
            unfold stepE
            rw [if_neg (by simpa using he)]
            split
            · rfl
            · next hb =>
              rcases hb0 with q2 | q2
              · rw [if_pos q2]
              · exact absurd q2 hb
          · rw [if_neg hb0] at hW0e
            left
            exact ⟨hW0e, fun q => hb0 (.inl q), by simpa using fun q => hb0 (.inr q)⟩
        refine awp_loop_g (γ := NW) (fun p t h => (p.k ≤ m.length) ∧ ((p.W = 0 ∧ m ≠ [] ∧ badM r.m (-1) m = false ∧ ∀ j, j < p.k → 0 ≤ takesF r (natI c) (m.getD j 0).toNat) ∨ (¬ p.W = 0 ∧ p.W = E)) ∧ t 2 = .int .i64 n ∧ t 3 = .ptr b3 0 ∧ t 4 = .ptr b4 0 ∧ t 7 = .ptr b7 0 ∧ t 8 = .ptr b8 0 ∧ t 9 = listI c ∧ t 10 = listI m ∧ t 11 = .int .i64 k ∧ t 16 = sv ∧ t 17 = .int .i64 E ∧ t 19 = listI RI ∧ t 18 = .int .i64 p.W ∧ t 21 = .int .i64 p.k ∧ h = H) (fun p => m.length - p.k) (⟨0, W0⟩) (turnA_self (by simp [h2, h3, h4, h7, h8, h9, h10, h11, h16, h17, h19, h18, ← hW0e]; simpa using hst)) ?_
        rintro p t hx ⟨hkp, hW, h2, h3, h4, h7, h8, h9, h10, h11, h16, h17, h19, h18, h21, ex⟩
        rw [ex]
        clear ex
        obtain ⟨i, W⟩ := p
        simp only at h2 h3 h4 h7 h8 h9 h10 h11 h16 h17 h19 h18 h21 hkp hW
        by_cases hin : i < m.length ∧ W = 0
        · obtain ⟨hin, hW0⟩ := hin
          subst hW0
          obtain ⟨hm0, hb0, hall⟩ : m ≠ [] ∧ badM r.m (-1) m = false ∧ ∀ j, j < i → 0 ≤ takesF r (natI c) (m.getD j 0).toNat := by
            rcases hW with ⟨_, q⟩ | ⟨q, _⟩
            · exact q
            · exact absurd rfl q
          obtain ⟨x, hx⟩ : ∃ x, x = m[i] := ⟨_, rfl⟩
          have hx' : m[i]'hin = x := hx.symm
          have hgx : m.getD i 0 = x := by simp [hin, hx]
          have hxb := badM_ok hb0 x (by rw [hx]; exact List.getElem_mem hin)
          have hmem := readyI_mem (r := r) (l := natI c) (x := x) (by omega) hxb.2
          rw [← hRI] at hmem
          have hinI : (i : Int) < (m.length : Int) := by omega
          have hwi : IntKind.i64.wrap ((i : Int) + 1) = (i : Int) + 1 := wrap_i64 (by omega) (by omega)
          have hml : listI m = .sl m.length (m.map (.int .i64)) := by rw [listI_ne hm0]; rfl
          simp [h2, h3, h4, h7, h8, h9, h10, h11, h16, h17, h19, h18, h21, hml, hin, hinI]
          refine awp_loop_g (γ := Nat) (fun j t h => (j ≤ RI.length) ∧ t 2 = .int .i64 n ∧ t 3 = .ptr b3 0 ∧ t 4 = .ptr b4 0 ∧ t 7 = .ptr b7 0 ∧ t 8 = .ptr b8 0 ∧ t 9 = listI c ∧ t 10 = listI m ∧ t 11 = .int .i64 k ∧ t 16 = sv ∧ t 17 = .int .i64 E ∧ t 19 = listI RI ∧ t 21 = .int .i64 i ∧ t 18 = .int .i64 0 ∧ t 22 = .bool ((RI.take j).any fun y => decide (y = x)) ∧ t 23 = .int .i64 j ∧ h = H) (fun j => RI.length - j) (0) (turnA_self (by simp [h2, h3, h4, h7, h8, h9, h10, h11, h16, h17, h19, h18, h21, hml])) ?_
          rintro j t hy ⟨hj, h2, h3, h4, h7, h8, h9, h10, h11, h16, h17, h19, h21, h18, h22, h23, ey⟩
          rw [ey]
          clear ey
          by_cases hjl : j < RI.length
          · have hjI : (j : Int) < (RI.length : Int) := by omega
            have hwj : IntKind.i64.wrap ((j : Int) + 1) = (j : Int) + 1 := wrap_i64 (by omega) (by omega)
            have hRne : ¬ RI = [] := fun e => by rw [e] at hjl; simp at hjl
            have hrl' : listI RI = .sl RI.length (RI.map (.int .i64)) := by rw [listI_ne hRne]; rfl
            obtain ⟨y, hy⟩ : ∃ y, y = RI[j] := ⟨_, rfl⟩
            have hy' : RI[j]'hjl = y := hy.symm
            have hts : (RI.take (j + 1)).any (fun y => decide (y = x)) = (((RI.take j).any fun y => decide (y = x)) || decide (y = x)) := by
              rw [List.take_succ_eq_append_getElem hjl, List.any_append, hy']; simp
            obtain ⟨f, hf⟩ : ∃ f, f = (RI.take j).any fun y => decide (y = x) := ⟨_, rfl⟩
            rw [← hf] at hts
            simp [h2, h3, h4, h7, h8, h9, h10, h11, h16, h17, h19, h21, h18, h22, h23, hrl', hjl, hjI, ← hf]
            refine awp_draw_text (by kernel_rfl) [] [] (by kernel_rfl) (by kernel_rfl) (by simp) ?_
            cases f with
            | true =>
              simp [h2, h3, h4, h7, h8, h9, h10, h11, h16, h17, h19, h21, h18, h22, h23, hrl', hjl, hjI, ← hf]
              exact turnA_self ⟨j + 1, by omega, by omega, by simp [h2, h3, h4, h7, h8, h9, h10, h11, h16, h17, h19, h21, h18, h22, h23, hwj, hrl', hts]⟩
            | false =>
              simp [h2, h3, h4, h7, h8, h9, h10, h11, h16, h17, h19, h21, h18, h22, h23, hrl', hml, hjl, hjI, ← hf, hin, hinI, hx', hy']
              exact turnA_self ⟨j + 1, by omega, by omega, by simp [h2, h3, h4, h7, h8, h9, h10, h11, h16, h17, h19, h21, h18, h22, h23, hwj, hrl', hml, hts]⟩
          · have hjE : j = RI.length := by omega
            have hjI : ¬ (j : Int) < (RI.length : Int) := by omega
            have hta : RI.take j = RI := List.take_of_length_le (by omega)
            simp [h2, h3, h4, h7, h8, h9, h10, h11, h16, h17, h19, h21, h18, h22, h23, -lenA, lenA_listI, hjI, hjl]
            rw [hta, hmem]
            by_cases hp : 0 ≤ takesF r (natI c) x.toNat
            · simp [h2, h3, h4, h7, h8, h9, h10, h11, h16, h17, h19, h21, h18, h22, h23, hp]
              exact turnA_self ⟨⟨i + 1, 0⟩, by simp only; omega, by simp only; omega, .inl ⟨rfl, hm0, hb0, fun j' hj' => by
                simp only at hj'
                by_cases e : j' = i
                · subst e
                  have q : m[j']?.getD 0 = x := by simpa using hgx
                  rw [q]; exact hp
                · simpa using hall j' (by omega)⟩, by simp [h2, h3, h4, h7, h8, h9, h10, h11, h16, h17, h19, h21, h18, h22, h23, hwi, hml]⟩
            · have hE81 : E = 81 := by
                rw [hE]
                unfold stepE
                rw [if_neg (by simpa using he), if_neg (by simp [hb0]), if_neg hm0, if_pos]
                rw [List.any_eq_true]
                exact ⟨x, by rw [hx]; exact List.getElem_mem hin, by simp; omega⟩
              simp [h2, h3, h4, h7, h8, h9, h10, h11, h16, h17, h19, h21, h18, h22, h23, hp]
              exact turnA_self ⟨⟨i + 1, 81⟩, by simp only; omega, by simp only; omega, .inr ⟨by simp, hE81.symm⟩, by simp [h2, h3, h4, h7, h8, h9, h10, h11, h16, h17, h19, h21, h18, h22, h23, hwi, hml]⟩
        · have hWE : W = E := by
            rcases hW with ⟨q1, q2, q3, q4⟩ | ⟨q1, q2⟩
            · have hil : i = m.length := by
                have : ¬ i < m.length := fun q => hin ⟨q, q1⟩
                omega
              rw [q1, hE]
              unfold stepE
              rw [if_neg (by simpa using he), if_neg (by simp [q3]), if_neg q2, if_neg]
              intro q
              obtain ⟨y, hy, hy2⟩ := List.any_eq_true.1 q
              obtain ⟨j, hj, rfl⟩ := List.mem_iff_getElem.1 hy
              have := q4 j (by omega)
              rw [show m.getD j 0 = m[j] from by simp [hj]] at this
              simp at hy2
              omega
            · exact q2
          by_cases hiL : i < m.length
          · have hW0 : ¬ W = 0 := fun q => hin ⟨hiL, q⟩
            have hinI : (i : Int) < (m.length : Int) := by omega
            simp [h2, h3, h4, h7, h8, h9, h10, h11, h16, h17, h19, h18, h21, -lenA, lenA_listI, hinI, hiL, hW0]
            exact hWE
          · have hinI : ¬ (i : Int) < (m.length : Int) := by omega
            simp [h2, h3, h4, h7, h8, h9, h10, h11, h16, h17, h19, h18, h21, -lenA, lenA_listI, hinI, hiL]
            exact hWE
      intro t hq ⟨h2, h3, h4, h7, h8, h9, h10, h11, h16, h17, h18, ehq⟩
      rw [ehq]
      clear ehq
      by_cases hE0 : E = 0
      · obtain ⟨z1, z2⟩ := stepE_zero (hE.symm.trans hE0)
        rw [if_pos (by rw [← hE]; exact hE0)] at hsv
        have hsl : (stepF r (natI c) (natI m)).length = r.m := by rw [stepF_len, hcfg.len]
        have hsn : ¬ stepF r (natI c) (natI m) = [] := fun e => by rw [e] at hsl; simp at hsl; omega
        obtain ⟨SI, hSI⟩ : ∃ SI, SI = (stepF r (natI c) (natI m)).map fun x : Nat => (x : Int) := ⟨_, rfl⟩
        have hSa : natsA (stepF r (natI c) (natI m)) = listI SI := by rw [nats_ints, hSI, listI_ne (by simpa using hsn)]
        have d8 := r_Step r hr (natI c) hcfg (natI m) z1 (by simp; omega)
        rw [← hcl, ← z2, hSa, hav] at d8
        rw [hSa] at hsv
        have d9 := l_same SI SI (by rw [hSI]; simp; omega) (by rw [hSI]; simp; omega)
        subst hsv
        simp [h2, h3, h4, h7, h8, h9, h10, h11, h16, h17, h18, hE0, e7]
        refine d8.use ?_
        simp [h2, h3, h4, h7, h8, h9, h10, h11, h16, h17, h18]
        refine d9.use ?_
        have f1 := w_Config r hr n
        rw [hav] at f1
        have f2 := r_Size r.m r.c q1 q2 q3 q4 q5
        simp [h2, h3, h4, h7, h8, h9, h10, h11, h16, h17, h18, e8]
        refine f1.use ?_
        by_cases hnn : 0 ≤ n ∧ n < (r.size : Int)
        · have g1 : ¬ n < 0 := by omega
          have g2 : ¬ (pw r.c r.m : Int) ≤ n := by have : n < (pw r.c r.m : Int) := hnn.2; omega
          obtain ⟨nn, rfl⟩ : ∃ nn : Nat, n = nn := ⟨n.toNat, by omega⟩
          have hnsz : nn < r.size := by omega
          have f3 := r_Of r hr nn hnsz
          have hofl := ofF_len r.c r.m nn
          have hofn : ¬ ofF r.c r.m nn = [] := fun e => by rw [e] at hofl; simp at hofl; omega
          have hofI : natsA (ofF r.c r.m nn) = listI ((ofF r.c r.m nn).map fun x : Nat => (x : Int)) := by rw [nats_ints, listI_ne (by simpa using hofn)]
          have f4 := l_same ((ofF r.c r.m nn).map fun x : Nat => (x : Int)) ((ofF r.c r.m nn).map fun x : Nat => (x : Int)) (by simp; omega) (by simp; omega)
          rw [← hofI] at f4
          rw [hav] at f3
          rw [if_pos hnn, Int.toNat_natCast]
          simp [h2, h3, h4, h7, h8, h9, h10, h11, h16, h17, h18, e7]
          refine f2.use ?_
          simp [h2, h3, h4, h7, h8, h9, h10, h11, h16, h17, h18, e7, g1, g2]
          refine f3.use ?_
          simp [h2, h3, h4, h7, h8, h9, h10, h11, h16, h17, h18]
          refine f4.use ?_
          simp [h2, h3, h4, h7, h8, h9, h10, h11, h16, h17, h18, e7, e4]
          refine e1.use ?_
          simp [h2, h3, h4, h7, h8, h9, h10, h11, h16, h17, h18, e7]
          refine e2.use ?_
          simp [h2, h3, h4, h7, h8, h9, h10, h11, h16, h17, h18]
          refine awp_loop_g (γ := At) (fun u t h => (u.i ≤ AI.length) ∧ ((u.o = none ↔ newL l1 AI u.i = []) ∧ ¬ u.o = some b4 ∧ FreshO H u.o) ∧ t 2 = .int .i64 (nn : Int) ∧ t 3 = .ptr b3 0 ∧ t 4 = .ptr b4 0 ∧ t 7 = .ptr b7 0 ∧ t 8 = .ptr b8 0 ∧ t 9 = listI CI ∧ t 10 = ownV u.o (newL l1 AI u.i).length 1 ∧ t 11 = .int .i64 k ∧ t 27 = listI AI ∧ t 28 = .int .i64 u.i ∧ h = H.updO u.o ((newL l1 AI u.i).map (.int .i64))) (fun u => AI.length - u.i) (⟨0, none⟩) (turnA_self (by simp [h2, h3, h4, h7, h8, h9, h10, h11, h16, h17, h18, newL])) ?_
          rintro u t hz ⟨hu, ho, h2, h3, h4, h7, h8, h9, h10, h11, h27, h28, ez⟩
          rw [ez]
          clear ez
          obtain ⟨i, o⟩ := u
          simp only at h2 h3 h4 h7 h8 h9 h10 h11 h27 h28 hu ho
          obtain ⟨ho1, ho2, ho3⟩ := ho
          by_cases hui : i < AI.length
          · have huI : (i : Int) < (AI.length : Int) := by omega
            have hwi : IntKind.i64.wrap ((i : Int) + 1) = (i : Int) + 1 := wrap_i64 (by omega) (by omega)
            have hAne : ¬ AI = [] := fun e => by rw [e] at hui; simp at hui
            have hal : listI AI = .sl AI.length (AI.map (.int .i64)) := by rw [listI_ne hAne]; rfl
            have hnl := newL_len l1 AI i
            obtain ⟨y, hy⟩ : ∃ y, y = AI[i] := ⟨_, rfl⟩
            have hy' : AI[i]'hui = y := hy.symm
            have hgy : AI.getD i 0 = y := by simp [hui, hy]
            have hns : newL l1 AI (i + 1) = if l1.length ≤ i ∨ (l1.getD i 0).tmod 2 = 0 then newL l1 AI i ++ [y] else newL l1 AI i := by rw [newL, hgy]
            simp [h2, h3, h4, h7, h8, h9, h10, h11, h27, h28, hal, hui, huI, ho2, e4]
            by_cases k0 : l1 = []
            · have k0l : l1.length = 0 := by rw [k0]; rfl
              rw [if_pos (by left; omega)] at hns
              have k0t : (l1 = []) = True := eq_true k0
              have k0I : (l1.length : Int) = 0 := by omega
              simp [h2, h3, h4, h7, h8, h9, h10, h11, h27, h28, k0t, k0I, hal, hui, huI, ho2, e4, hy', intsA]
              intro b1 hb1
              simp at hb1
              obtain ⟨z1, z2⟩ : ¬ o = some b1 ∧ Fresh H b1 := hb1
              simp [h2, h3, h4, h7, h8, h9, h10, h11, h27, h28, z1, z2]
              refine appendA_updO (by omega) (by omega) (by simpa using ho1.1) (by simp) (by simp) (by simp [z1, z2, ho3]) fun b' hb' => ?_
              have hf' : ¬ b' = b1 ∧ ¬ b1 = b' ∧ Fresh H b' := by simpa [z1, z2] using hb'
              obtain ⟨z3, z3', z4⟩ := hf'
              have nb4 := ne_fresh (e4 0) z4
              simp [h2, h3, h4, h7, h8, h9, h10, h11, h27, h28, z1, z2, z3, z3', z4]
              refine turnA_to (H.updO (some b') ((newL l1 AI (i + 1)).map (.int .i64))) ?_ ⟨⟨i + 1, some b'⟩, by simp only; omega, by simp only; omega, ⟨by simp [hns], by simp [nb4], z4⟩, by simp [h2, h3, h4, h7, h8, h9, h10, h11, h27, h28, hwi, hns, hal]⟩
              rw [hns]
              simp
              exact Drop.both (Drop.new (Drop.refl _) (by simp [z2]))
            · have k0I : ¬ (l1.length : Int) = 0 := by simpa using k0
              by_cases k1 : l1.length ≤ i
              · have k1I : (l1.length : Int) ≤ (i : Int) := by omega
                rw [if_pos (.inl k1)] at hns
                simp [h2, h3, h4, h7, h8, h9, h10, h11, h27, h28, k0, k0I, k1, k1I, hal, hui, huI, ho2, e4, hy', intsA]
                intro b1 hb1
                simp at hb1
                obtain ⟨z1, z2⟩ : ¬ o = some b1 ∧ Fresh H b1 := hb1
                simp [h2, h3, h4, h7, h8, h9, h10, h11, h27, h28, z1, z2]
                refine appendA_updO (by omega) (by omega) (by simpa using ho1.1) (by simp) (by simp) (by simp [z1, z2, ho3]) fun b' hb' => ?_
                have hf' : ¬ b' = b1 ∧ ¬ b1 = b' ∧ Fresh H b' := by simpa [z1, z2] using hb'
                obtain ⟨z3, z3', z4⟩ := hf'
                have nb4 := ne_fresh (e4 0) z4
                simp [h2, h3, h4, h7, h8, h9, h10, h11, h27, h28, z1, z2, z3, z3', z4]
                refine turnA_to (H.updO (some b') ((newL l1 AI (i + 1)).map (.int .i64))) ?_ ⟨⟨i + 1, some b'⟩, by simp only; omega, by simp only; omega, ⟨by simp [hns], by simp [nb4], z4⟩, by simp [h2, h3, h4, h7, h8, h9, h10, h11, h27, h28, hwi, hns, hal]⟩
                rw [hns]
                simp
                exact Drop.both (Drop.new (Drop.refl _) (by simp [z2]))
              · have k1I : ¬ (l1.length : Int) ≤ (i : Int) := by omega
                have k1' : i < l1.length := by omega
                have k1'I : (i : Int) < (l1.length : Int) := by omega
                obtain ⟨z, hz⟩ : ∃ z, z = l1[i] := ⟨_, rfl⟩
                have hz' : l1[i]'k1' = z := hz.symm
                have hgz : l1.getD i 0 = z := by simp [k1', hz]
                rw [hgz] at hns
                by_cases k2 : z.tmod 2 = 0
                · rw [if_pos (.inr k2)] at hns
                  simp [h2, h3, h4, h7, h8, h9, h10, h11, h27, h28, k0, k0I, k1, k1I, k1', k1'I, hz', k2, hal, hui, huI, ho2, e4, hy', intsA]
                  intro b1 hb1
                  simp at hb1
                  obtain ⟨z1, z2⟩ : ¬ o = some b1 ∧ Fresh H b1 := hb1
                  simp [h2, h3, h4, h7, h8, h9, h10, h11, h27, h28, z1, z2]
                  refine appendA_updO (by omega) (by omega) (by simpa using ho1.1) (by simp) (by simp) (by simp [z1, z2, ho3]) fun b' hb' => ?_
                  have hf' : ¬ b' = b1 ∧ ¬ b1 = b' ∧ Fresh H b' := by simpa [z1, z2] using hb'
                  obtain ⟨z3, z3', z4⟩ := hf'
                  have nb4 := ne_fresh (e4 0) z4
                  simp [h2, h3, h4, h7, h8, h9, h10, h11, h27, h28, z1, z2, z3, z3', z4]
                  refine turnA_to (H.updO (some b') ((newL l1 AI (i + 1)).map (.int .i64))) ?_ ⟨⟨i + 1, some b'⟩, by simp only; omega, by simp only; omega, ⟨by simp [hns], by simp [nb4], z4⟩, by simp [h2, h3, h4, h7, h8, h9, h10, h11, h27, h28, hwi, hns, hal]⟩
                  rw [hns]
                  simp
                  exact Drop.both (Drop.new (Drop.refl _) (by simp [z2]))
                · rw [if_neg (by rintro (q | q); exact k1 q; exact k2 q)] at hns
                  simp [h2, h3, h4, h7, h8, h9, h10, h11, h27, h28, k0, k0I, k1, k1I, k1', k1'I, hz', k2, hal, hui, huI, ho2, e4, hy', intsA]
                  exact turnA_self ⟨⟨i + 1, o⟩, by simp only; omega, by simp only; omega, by simp only; rw [hns]; exact ⟨ho1, ho2, ho3⟩, by simp [h2, h3, h4, h7, h8, h9, h10, h11, h27, h28, hwi, hns, hal]⟩
          · have huE : i = AI.length := by omega
            have huI : ¬ (i : Int) < (AI.length : Int) := by omega
            have hnl := newL_len l1 AI i
            simp [h2, h3, h4, h7, h8, h9, h10, h11, h27, h28, -lenA, lenA_listI, huI, hui]
            cases o with
            | none =>
              have hn0 := ho1.1 rfl
              exact turnA_self ⟨⟨k + 1, CI, [], (nn : Int)⟩, by simp only; omega, by simp only; omega, by simp only; omega, by simp, by simp [h2, h3, h4, h7, h8, h9, h10, h11, h27, h28, hwk, hn0, listI]⟩
            | some bb =>
              have hnz : ¬ newL l1 AI i = [] := fun q => by have := ho1.2 q; cases this
              rw [updO_some]
              refine turnA_slot 10 bb (newL l1 AI i) (by simp [h2, h3, h4, h7, h8, h9, h10, h11, h27, h28]) ho3 ⟨⟨k + 1, CI, newL l1 AI i, (nn : Int)⟩, by simp only; omega, by simp only; omega, by simp only; omega, by simp only; omega, by simp [h2, h3, h4, h7, h8, h9, h10, h11, h27, h28, hwk, listI, hnz]⟩
        · have hsp : 0 < r.size := pw_pos (by omega) _
          have hum := uM_lt (x := n) hsp
          have u1 : IntKind.u64.wrap (pw r.c r.m : Int) = (pw r.c r.m : Int) := wrap_u64 (by omega) (by have : (pw r.c r.m : Int) = (r.size : Int) := rfl; omega)
          have u2 : (IntKind.u64.wrap n).tmod (pw r.c r.m : Int) = (uM n r.size : Int) := uM_mod hsp
          have u3 : ¬ pw r.c r.m = 0 := by have : pw r.c r.m = r.size := rfl; omega
          have u4 : IntKind.i64.wrap (uM n r.size : Int) = (uM n r.size : Int) := wrap_i64 (by omega) (by omega)
          rw [if_neg hnn]
          simp [h2, h3, h4, h7, h8, h9, h10, h11, h16, h17, h18, e7]
          refine f2.use ?_
          by_cases g1 : n < 0
          · simp [h2, h3, h4, h7, h8, h9, h10, h11, h16, h17, h18, e7, e4, g1, u1, u2, u3, u4]
            refine e1.use ?_
            simp [h2, h3, h4, h7, h8, h9, h10, h11, h16, h17, h18, e7]
            refine e2.use ?_
            simp [h2, h3, h4, h7, h8, h9, h10, h11, h16, h17, h18]
            refine awp_loop_g (γ := At) (fun u t h => (u.i ≤ AI.length) ∧ ((u.o = none ↔ newL l1 AI u.i = []) ∧ ¬ u.o = some b4 ∧ FreshO H u.o) ∧ t 2 = .int .i64 (uM n r.size : Int) ∧ t 3 = .ptr b3 0 ∧ t 4 = .ptr b4 0 ∧ t 7 = .ptr b7 0 ∧ t 8 = .ptr b8 0 ∧ t 9 = listI CI ∧ t 10 = ownV u.o (newL l1 AI u.i).length 1 ∧ t 11 = .int .i64 k ∧ t 27 = listI AI ∧ t 28 = .int .i64 u.i ∧ h = H.updO u.o ((newL l1 AI u.i).map (.int .i64))) (fun u => AI.length - u.i) (⟨0, none⟩) (turnA_self (by simp [h2, h3, h4, h7, h8, h9, h10, h11, h16, h17, h18, newL])) ?_
            rintro u t hz ⟨hu, ho, h2, h3, h4, h7, h8, h9, h10, h11, h27, h28, ez⟩
            rw [ez]
            clear ez
            obtain ⟨i, o⟩ := u
            simp only at h2 h3 h4 h7 h8 h9 h10 h11 h27 h28 hu ho
            obtain ⟨ho1, ho2, ho3⟩ := ho
            by_cases hui : i < AI.length
            · have huI : (i : Int) < (AI.length : Int) := by omega
              have hwi : IntKind.i64.wrap ((i : Int) + 1) = (i : Int) + 1 := wrap_i64 (by omega) (by omega)
              have hAne : ¬ AI = [] := fun e => by rw [e] at hui; simp at hui
              have hal : listI AI = .sl AI.length (AI.map (.int .i64)) := by rw [listI_ne hAne]; rfl
              have hnl := newL_len l1 AI i
              obtain ⟨y, hy⟩ : ∃ y, y = AI[i] := ⟨_, rfl⟩
              have hy' : AI[i]'hui = y := hy.symm
              have hgy : AI.getD i 0 = y := by simp [hui, hy]
              have hns : newL l1 AI (i + 1) = if l1.length ≤ i ∨ (l1.getD i 0).tmod 2 = 0 then newL l1 AI i ++ [y] else newL l1 AI i := by rw [newL, hgy]
              simp [h2, h3, h4, h7, h8, h9, h10, h11, h27, h28, hal, hui, huI, ho2, e4]
              by_cases k0 : l1 = []
              · have k0l : l1.length = 0 := by rw [k0]; rfl
                rw [if_pos (by left; omega)] at hns
                have k0t : (l1 = []) = True := eq_true k0
                have k0I : (l1.length : Int) = 0 := by omega
                simp [h2, h3, h4, h7, h8, h9, h10, h11, h27, h28, k0t, k0I, hal, hui, huI, ho2, e4, hy', intsA]
                intro b1 hb1
                simp at hb1
                obtain ⟨z1, z2⟩ : ¬ o = some b1 ∧ Fresh H b1 := hb1
                simp [h2, h3, h4, h7, h8, h9, h10, h11, h27, h28, z1, z2]
                refine appendA_updO (by omega) (by omega) (by simpa using ho1.1) (by simp) (by simp) (by simp [z1, z2, ho3]) fun b' hb' => ?_
                have hf' : ¬ b' = b1 ∧ ¬ b1 = b' ∧ Fresh H b' := by simpa [z1, z2] using hb'
                obtain ⟨z3, z3', z4⟩ := hf'
                have nb4 := ne_fresh (e4 0) z4
                simp [h2, h3, h4, h7, h8, h9, h10, h11, h27, h28, z1, z2, z3, z3', z4]
                refine turnA_to (H.updO (some b') ((newL l1 AI (i + 1)).map (.int .i64))) ?_ ⟨⟨i + 1, some b'⟩, by simp only; omega, by simp only; omega, ⟨by simp [hns], by simp [nb4], z4⟩, by simp [h2, h3, h4, h7, h8, h9, h10, h11, h27, h28, hwi, hns, hal]⟩
                rw [hns]
                simp
                exact Drop.both (Drop.new (Drop.refl _) (by simp [z2]))
              · have k0I : ¬ (l1.length : Int) = 0 := by simpa using k0
                by_cases k1 : l1.length ≤ i
                · have k1I : (l1.length : Int) ≤ (i : Int) := by omega
                  rw [if_pos (.inl k1)] at hns
                  simp [h2, h3, h4, h7, h8, h9, h10, h11, h27, h28, k0, k0I, k1, k1I, hal, hui, huI, ho2, e4, hy', intsA]
                  intro b1 hb1
                  simp at hb1
                  obtain ⟨z1, z2⟩ : ¬ o = some b1 ∧ Fresh H b1 := hb1
                  simp [h2, h3, h4, h7, h8, h9, h10, h11, h27, h28, z1, z2]
                  refine appendA_updO (by omega) (by omega) (by simpa using ho1.1) (by simp) (by simp) (by simp [z1, z2, ho3]) fun b' hb' => ?_
                  have hf' : ¬ b' = b1 ∧ ¬ b1 = b' ∧ Fresh H b' := by simpa [z1, z2] using hb'
                  obtain ⟨z3, z3', z4⟩ := hf'
                  have nb4 := ne_fresh (e4 0) z4
                  simp [h2, h3, h4, h7, h8, h9, h10, h11, h27, h28, z1, z2, z3, z3', z4]
                  refine turnA_to (H.updO (some b') ((newL l1 AI (i + 1)).map (.int .i64))) ?_ ⟨⟨i + 1, some b'⟩, by simp only; omega, by simp only; omega, ⟨by simp [hns], by simp [nb4], z4⟩, by simp [h2, h3, h4, h7, h8, h9, h10, h11, h27, h28, hwi, hns, hal]⟩
                  rw [hns]
                  simp
                  exact Drop.both (Drop.new (Drop.refl _) (by simp [z2]))
                · have k1I : ¬ (l1.length : Int) ≤ (i : Int) := by omega
                  have k1' : i < l1.length := by omega
                  have k1'I : (i : Int) < (l1.length : Int) := by omega
                  obtain ⟨z, hz⟩ : ∃ z, z = l1[i] := ⟨_, rfl⟩
                  have hz' : l1[i]'k1' = z := hz.symm
                  have hgz : l1.getD i 0 = z := by simp [k1', hz]
                  rw [hgz] at hns
                  by_cases k2 : z.tmod 2 = 0
                  · rw [if_pos (.inr k2)] at hns
                    simp [h2, h3, h4, h7, h8, h9, h10, h11, h27, h28, k0, k0I, k1, k1I, k1', k1'I, hz', k2, hal, hui, huI, ho2, e4, hy', intsA]
                    intro b1 hb1
                    simp at hb1
                    obtain ⟨z1, z2⟩ : ¬ o = some b1 ∧ Fresh H b1 := hb1
                    simp [h2, h3, h4, h7, h8, h9, h10, h11, h27, h28, z1, z2]
                    refine appendA_updO (by omega) (by omega) (by simpa using ho1.1) (by simp) (by simp) (by simp [z1, z2, ho3]) fun b' hb' => ?_
                    have hf' : ¬ b' = b1 ∧ ¬ b1 = b' ∧ Fresh H b' := by simpa [z1, z2] using hb'
                    obtain ⟨z3, z3', z4⟩ := hf'
                    have nb4 := ne_fresh (e4 0) z4
                    simp [h2, h3, h4, h7, h8, h9, h10, h11, h27, h28, z1, z2, z3, z3', z4]
                    refine turnA_to (H.updO (some b') ((newL l1 AI (i + 1)).map (.int .i64))) ?_ ⟨⟨i + 1, some b'⟩, by simp only; omega, by simp only; omega, ⟨by simp [hns], by simp [nb4], z4⟩, by simp [h2, h3, h4, h7, h8, h9, h10, h11, h27, h28, hwi, hns, hal]⟩
                    rw [hns]
                    simp
                    exact Drop.both (Drop.new (Drop.refl _) (by simp [z2]))
                  · rw [if_neg (by rintro (q | q); exact k1 q; exact k2 q)] at hns
                    simp [h2, h3, h4, h7, h8, h9, h10, h11, h27, h28, k0, k0I, k1, k1I, k1', k1'I, hz', k2, hal, hui, huI, ho2, e4, hy', intsA]
                    exact turnA_self ⟨⟨i + 1, o⟩, by simp only; omega, by simp only; omega, by simp only; rw [hns]; exact ⟨ho1, ho2, ho3⟩, by simp [h2, h3, h4, h7, h8, h9, h10, h11, h27, h28, hwi, hns, hal]⟩
            · have huE : i = AI.length := by omega
              have huI : ¬ (i : Int) < (AI.length : Int) := by omega
              have hnl := newL_len l1 AI i
              simp [h2, h3, h4, h7, h8, h9, h10, h11, h27, h28, -lenA, lenA_listI, huI, hui]
              cases o with
              | none =>
                have hn0 := ho1.1 rfl
                exact turnA_self ⟨⟨k + 1, CI, [], (uM n r.size : Int)⟩, by simp only; omega, by simp only; omega, by simp only; omega, by simp, by simp [h2, h3, h4, h7, h8, h9, h10, h11, h27, h28, hwk, hn0, listI]⟩
              | some bb =>
                have hnz : ¬ newL l1 AI i = [] := fun q => by have := ho1.2 q; cases this
                rw [updO_some]
                refine turnA_slot 10 bb (newL l1 AI i) (by simp [h2, h3, h4, h7, h8, h9, h10, h11, h27, h28]) ho3 ⟨⟨k + 1, CI, newL l1 AI i, (uM n r.size : Int)⟩, by simp only; omega, by simp only; omega, by simp only; omega, by simp only; omega, by simp [h2, h3, h4, h7, h8, h9, h10, h11, h27, h28, hwk, listI, hnz]⟩
          · have g2 : (pw r.c r.m : Int) ≤ n := by
              have : ¬ n < (pw r.c r.m : Int) := fun q => hnn ⟨by omega, q⟩
              omega
            simp [h2, h3, h4, h7, h8, h9, h10, h11, h16, h17, h18, e7, e4, g1, g2, u1, u2, u3, u4]
            refine e1.use ?_
            simp [h2, h3, h4, h7, h8, h9, h10, h11, h16, h17, h18, e7]
            refine e2.use ?_
            simp [h2, h3, h4, h7, h8, h9, h10, h11, h16, h17, h18]
            refine awp_loop_g (γ := At) (fun u t h => (u.i ≤ AI.length) ∧ ((u.o = none ↔ newL l1 AI u.i = []) ∧ ¬ u.o = some b4 ∧ FreshO H u.o) ∧ t 2 = .int .i64 (uM n r.size : Int) ∧ t 3 = .ptr b3 0 ∧ t 4 = .ptr b4 0 ∧ t 7 = .ptr b7 0 ∧ t 8 = .ptr b8 0 ∧ t 9 = listI CI ∧ t 10 = ownV u.o (newL l1 AI u.i).length 1 ∧ t 11 = .int .i64 k ∧ t 27 = listI AI ∧ t 28 = .int .i64 u.i ∧ h = H.updO u.o ((newL l1 AI u.i).map (.int .i64))) (fun u => AI.length - u.i) (⟨0, none⟩) (turnA_self (by simp [h2, h3, h4, h7, h8, h9, h10, h11, h16, h17, h18, newL])) ?_
            rintro u t hz ⟨hu, ho, h2, h3, h4, h7, h8, h9, h10, h11, h27, h28, ez⟩
            rw [ez]
            clear ez
            obtain ⟨i, o⟩ := u
            simp only at h2 h3 h4 h7 h8 h9 h10 h11 h27 h28 hu ho
            obtain ⟨ho1, ho2, ho3⟩ := ho
            by_cases hui : i < AI.length
            · have huI : (i : Int) < (AI.length : Int) := by omega
              have hwi : IntKind.i64.wrap ((i : Int) + 1) = (i : Int) + 1 := wrap_i64 (by omega) (by omega)
              have hAne : ¬ AI = [] := fun e => by rw [e] at hui; simp at hui
              have hal : listI AI = .sl AI.length (AI.map (.int .i64)) := by rw [listI_ne hAne]; rfl
              have hnl := newL_len l1 AI i
              obtain ⟨y, hy⟩ : ∃ y, y = AI[i] := ⟨_, rfl⟩
              have hy' : AI[i]'hui = y := hy.symm
              have hgy : AI.getD i 0 = y := by simp [hui, hy]
              have hns : newL l1 AI (i + 1) = if l1.length ≤ i ∨ (l1.getD i 0).tmod 2 = 0 then newL l1 AI i ++ [y] else newL l1 AI i := by rw [newL, hgy]
              simp [h2, h3, h4, h7, h8, h9, h10, h11, h27, h28, hal, hui, huI, ho2, e4]
              by_cases k0 : l1 = []
              · have k0l : l1.length = 0 := by rw [k0]; rfl
                rw [if_pos (by left; omega)] at hns
                have k0t : (l1 = []) = True := eq_true k0
                have k0I : (l1.length : Int) = 0 := by omega
                simp [h2, h3, h4, h7, h8, h9, h10, h11, h27, h28, k0t, k0I, hal, hui, huI, ho2, e4, hy', intsA]
                intro b1 hb1
                simp at hb1
                obtain ⟨z1, z2⟩ : ¬ o = some b1 ∧ Fresh H b1 := hb1
                simp [h2, h3, h4, h7, h8, h9, h10, h11, h27, h28, z1, z2]
                refine appendA_updO (by omega) (by omega) (by simpa using ho1.1) (by simp) (by simp) (by simp [z1, z2, ho3]) fun b' hb' => ?_
                have hf' : ¬ b' = b1 ∧ ¬ b1 = b' ∧ Fresh H b' := by simpa [z1, z2] using hb'
                obtain ⟨z3, z3', z4⟩ := hf'
                have nb4 := ne_fresh (e4 0) z4
                simp [h2, h3, h4, h7, h8, h9, h10, h11, h27, h28, z1, z2, z3, z3', z4]
                refine turnA_to (H.updO (some b') ((newL l1 AI (i + 1)).map (.int .i64))) ?_ ⟨⟨i + 1, some b'⟩, by simp only; omega, by simp only; omega, ⟨by simp [hns], by simp [nb4], z4⟩, by simp [h2, h3, h4, h7, h8, h9, h10, h11, h27, h28, hwi, hns, hal]⟩
                rw [hns]
                simp
                exact Drop.both (Drop.new (Drop.refl _) (by simp [z2]))
              · have k0I : ¬ (l1.length : Int) = 0 := by simpa using k0
                by_cases k1 : l1.length ≤ i
                · have k1I : (l1.length : Int) ≤ (i : Int) := by omega
                  rw [if_pos (.inl k1)] at hns
                  simp [h2, h3, h4, h7, h8, h9, h10, h11, h27, h28, k0, k0I, k1, k1I, hal, hui, huI, ho2, e4, hy', intsA]
                  intro b1 hb1
                  simp at hb1
                  obtain ⟨z1, z2⟩ : ¬ o = some b1 ∧ Fresh H b1 := hb1
                  simp [h2, h3, h4, h7, h8, h9, h10, h11, h27, h28, z1, z2]
                  refine appendA_updO (by omega) (by omega) (by simpa using ho1.1) (by simp) (by simp) (by simp [z1, z2, ho3]) fun b' hb' => ?_
                  have hf' : ¬ b' = b1 ∧ ¬ b1 = b' ∧ Fresh H b' := by simpa [z1, z2] using hb'
                  obtain ⟨z3, z3', z4⟩ := hf'
                  have nb4 := ne_fresh (e4 0) z4
                  simp [h2, h3, h4, h7, h8, h9, h10, h11, h27, h28, z1, z2, z3, z3', z4]
                  refine turnA_to (H.updO (some b') ((newL l1 AI (i + 1)).map (.int .i64))) ?_ ⟨⟨i + 1, some b'⟩, by simp only; omega, by simp only; omega, ⟨by simp [hns], by simp [nb4], z4⟩, by simp [h2, h3, h4, h7, h8, h9, h10, h11, h27, h28, hwi, hns, hal]⟩
                  rw [hns]
                  simp
                  exact Drop.both (Drop.new (Drop.refl _) (by simp [z2]))
                · have k1I : ¬ (l1.length : Int) ≤ (i : Int) := by omega
                  have k1' : i < l1.length := by omega
                  have k1'I : (i : Int) < (l1.length : Int) := by omega
                  obtain ⟨z, hz⟩ : ∃ z, z = l1[i] := ⟨_, rfl⟩
                  have hz' : l1[i]'k1' = z := hz.symm
                  have hgz : l1.getD i 0 = z := by simp [k1', hz]
                  rw [hgz] at hns
                  by_cases k2 : z.tmod 2 = 0
                  · rw [if_pos (.inr k2)] at hns
                    simp [h2, h3, h4, h7, h8, h9, h10, h11, h27, h28, k0, k0I, k1, k1I, k1', k1'I, hz', k2, hal, hui, huI, ho2, e4, hy', intsA]
                    intro b1 hb1
                    simp at hb1
                    obtain ⟨z1, z2⟩ : ¬ o = some b1 ∧ Fresh H b1 := hb1
                    simp [h2, h3, h4, h7, h8, h9, h10, h11, h27, h28, z1, z2]
                    refine appendA_updO (by omega) (by omega) (by simpa using ho1.1) (by simp) (by simp) (by simp [z1, z2, ho3]) fun b' hb' => ?_
                    have hf' : ¬ b' = b1 ∧ ¬ b1 = b' ∧ Fresh H b' := by simpa [z1, z2] using hb'
                    obtain ⟨z3, z3', z4⟩ := hf'
                    have nb4 := ne_fresh (e4 0) z4
                    simp [h2, h3, h4, h7, h8, h9, h10, h11, h27, h28, z1, z2, z3, z3', z4]
                    refine turnA_to (H.updO (some b') ((newL l1 AI (i + 1)).map (.int .i64))) ?_ ⟨⟨i + 1, some b'⟩, by simp only; omega, by simp only; omega, ⟨by simp [hns], by simp [nb4], z4⟩, by simp [h2, h3, h4, h7, h8, h9, h10, h11, h27, h28, hwi, hns, hal]⟩
                    rw [hns]
                    simp
                    exact Drop.both (Drop.new (Drop.refl _) (by simp [z2]))
                  · rw [if_neg (by rintro (q | q); exact k1 q; exact k2 q)] at hns
                    simp [h2, h3, h4, h7, h8, h9, h10, h11, h27, h28, k0, k0I, k1, k1I, k1', k1'I, hz', k2, hal, hui, huI, ho2, e4, hy', intsA]
                    exact turnA_self ⟨⟨i + 1, o⟩, by simp only; omega, by simp only; omega, by simp only; rw [hns]; exact ⟨ho1, ho2, ho3⟩, by simp [h2, h3, h4, h7, h8, h9, h10, h11, h27, h28, hwi, hns, hal]⟩
            · have huE : i = AI.length := by omega
              have huI : ¬ (i : Int) < (AI.length : Int) := by omega
              have hnl := newL_len l1 AI i
              simp [h2, h3, h4, h7, h8, h9, h10, h11, h27, h28, -lenA, lenA_listI, huI, hui]
              cases o with
              | none =>
                have hn0 := ho1.1 rfl
                exact turnA_self ⟨⟨k + 1, CI, [], (uM n r.size : Int)⟩, by simp only; omega, by simp only; omega, by simp only; omega, by simp, by simp [h2, h3, h4, h7, h8, h9, h10, h11, h27, h28, hwk, hn0, listI]⟩
              | some bb =>
                have hnz : ¬ newL l1 AI i = [] := fun q => by have := ho1.2 q; cases this
                rw [updO_some]
                refine turnA_slot 10 bb (newL l1 AI i) (by simp [h2, h3, h4, h7, h8, h9, h10, h11, h27, h28]) ho3 ⟨⟨k + 1, CI, newL l1 AI i, (uM n r.size : Int)⟩, by simp only; omega, by simp only; omega, by simp only; omega, by simp only; omega, by simp [h2, h3, h4, h7, h8, h9, h10, h11, h27, h28, hwk, listI, hnz]⟩
      · rw [if_neg (by rw [← hE]; exact hE0)] at hsv
        subst hsv
        simp [h2, h3, h4, h7, h8, h9, h10, h11, h16, h17, h18, hE0]
        have f1 := w_Config r hr n
        rw [hav] at f1
        have f2 := r_Size r.m r.c q1 q2 q3 q4 q5
        simp [h2, h3, h4, h7, h8, h9, h10, h11, h16, h17, h18, e8]
        refine f1.use ?_
        by_cases hnn : 0 ≤ n ∧ n < (r.size : Int)
        · have g1 : ¬ n < 0 := by omega
          have g2 : ¬ (pw r.c r.m : Int) ≤ n := by have : n < (pw r.c r.m : Int) := hnn.2; omega
          obtain ⟨nn, rfl⟩ : ∃ nn : Nat, n = nn := ⟨n.toNat, by omega⟩
          have hnsz : nn < r.size := by omega
          have f3 := r_Of r hr nn hnsz
          have hofl := ofF_len r.c r.m nn
          have hofn : ¬ ofF r.c r.m nn = [] := fun e => by rw [e] at hofl; simp at hofl; omega
          have hofI : natsA (ofF r.c r.m nn) = listI ((ofF r.c r.m nn).map fun x : Nat => (x : Int)) := by rw [nats_ints, listI_ne (by simpa using hofn)]
          have f4 := l_same ((ofF r.c r.m nn).map fun x : Nat => (x : Int)) ((ofF r.c r.m nn).map fun x : Nat => (x : Int)) (by simp; omega) (by simp; omega)
          rw [← hofI] at f4
          rw [hav] at f3
          rw [if_pos hnn, Int.toNat_natCast]
          simp [h2, h3, h4, h7, h8, h9, h10, h11, h16, h17, h18, e7]
          refine f2.use ?_
          simp [h2, h3, h4, h7, h8, h9, h10, h11, h16, h17, h18, e7, g1, g2]
          refine f3.use ?_
          simp [h2, h3, h4, h7, h8, h9, h10, h11, h16, h17, h18]
          refine f4.use ?_
          simp [h2, h3, h4, h7, h8, h9, h10, h11, h16, h17, h18, e7, e4]
          refine e1.use ?_
          simp [h2, h3, h4, h7, h8, h9, h10, h11, h16, h17, h18, e7]
          refine e2.use ?_
          simp [h2, h3, h4, h7, h8, h9, h10, h11, h16, h17, h18]
          refine awp_loop_g (γ := At) (fun u t h => (u.i ≤ AI.length) ∧ ((u.o = none ↔ newL l1 AI u.i = []) ∧ ¬ u.o = some b4 ∧ FreshO H u.o) ∧ t 2 = .int .i64 (nn : Int) ∧ t 3 = .ptr b3 0 ∧ t 4 = .ptr b4 0 ∧ t 7 = .ptr b7 0 ∧ t 8 = .ptr b8 0 ∧ t 9 = listI CI ∧ t 10 = ownV u.o (newL l1 AI u.i).length 1 ∧ t 11 = .int .i64 k ∧ t 27 = listI AI ∧ t 28 = .int .i64 u.i ∧ h = H.updO u.o ((newL l1 AI u.i).map (.int .i64))) (fun u => AI.length - u.i) (⟨0, none⟩) (turnA_self (by simp [h2, h3, h4, h7, h8, h9, h10, h11, h16, h17, h18, newL])) ?_
          rintro u t hz ⟨hu, ho, h2, h3, h4, h7, h8, h9, h10, h11, h27, h28, ez⟩
          rw [ez]
          clear ez
          obtain ⟨i, o⟩ := u
          simp only at h2 h3 h4 h7 h8 h9 h10 h11 h27 h28 hu ho
          obtain ⟨ho1, ho2, ho3⟩ := ho
          by_cases hui : i < AI.length
          · have huI : (i : Int) < (AI.length : Int) := by omega
            have hwi : IntKind.i64.wrap ((i : Int) + 1) = (i : Int) + 1 := wrap_i64 (by omega) (by omega)
            have hAne : ¬ AI = [] := fun e => by rw [e] at hui; simp at hui
            have hal : listI AI = .sl AI.length (AI.map (.int .i64)) := by rw [listI_ne hAne]; rfl
            have hnl := newL_len l1 AI i
            obtain ⟨y, hy⟩ : ∃ y, y = AI[i] := ⟨_, rfl⟩
            have hy' : AI[i]'hui = y := hy.symm
            have hgy : AI.getD i 0 = y := by simp [hui, hy]
            have hns : newL l1 AI (i + 1) = if l1.length ≤ i ∨ (l1.getD i 0).tmod 2 = 0 then newL l1 AI i ++ [y] else newL l1 AI i := by rw [newL, hgy]
            simp [h2, h3, h4, h7, h8, h9, h10, h11, h27, h28, hal, hui, huI, ho2, e4]
            by_cases k0 : l1 = []
            · have k0l : l1.length = 0 := by rw [k0]; rfl
              rw [if_pos (by left; omega)] at hns
              have k0t : (l1 = []) = True := eq_true k0
              have k0I : (l1.length : Int) = 0 := by omega
              simp [h2, h3, h4, h7, h8, h9, h10, h11, h27, h28, k0t, k0I, hal, hui, huI, ho2, e4, hy', intsA]
              intro b1 hb1
              simp at hb1
              obtain ⟨z1, z2⟩ : ¬ o = some b1 ∧ Fresh H b1 := hb1
              simp [h2, h3, h4, h7, h8, h9, h10, h11, h27, h28, z1, z2]
              refine appendA_updO (by omega) (by omega) (by simpa using ho1.1) (by simp) (by simp) (by simp [z1, z2, ho3]) fun b' hb' => ?_
              have hf' : ¬ b' = b1 ∧ ¬ b1 = b' ∧ Fresh H b' := by simpa [z1, z2] using hb'
              obtain ⟨z3, z3', z4⟩ := hf'
              have nb4 := ne_fresh (e4 0) z4
              simp [h2, h3, h4, h7, h8, h9, h10, h11, h27, h28, z1, z2, z3, z3', z4]
              refine turnA_to (H.updO (some b') ((newL l1 AI (i + 1)).map (.int .i64))) ?_ ⟨⟨i + 1, some b'⟩, by simp only; omega, by simp only; omega, ⟨by simp [hns], by simp [nb4], z4⟩, by simp [h2, h3, h4, h7, h8, h9, h10, h11, h27, h28, hwi, hns, hal]⟩
              rw [hns]
              simp
              exact Drop.both (Drop.new (Drop.refl _) (by simp [z2]))
            · have k0I : ¬ (l1.length : Int) = 0 := by simpa using k0
              by_cases k1 : l1.length ≤ i
              · have k1I : (l1.length : Int) ≤ (i : Int) := by omega
                rw [if_pos (.inl k1)] at hns
                simp [h2, h3, h4, h7, h8, h9, h10, h11, h27, h28, k0, k0I, k1, k1I, hal, hui, huI, ho2, e4, hy', intsA]
                intro b1 hb1
                simp at hb1
                obtain ⟨z1, z2⟩ : ¬ o = some b1 ∧ Fresh H b1 := hb1
                simp [h2, h3, h4, h7, h8, h9, h10, h11, h27, h28, z1, z2]
                refine appendA_updO (by omega) (by omega) (by simpa using ho1.1) (by simp) (by simp) (by simp [z1, z2, ho3]) fun b' hb' => ?_
                have hf' : ¬ b' = b1 ∧ ¬ b1 = b' ∧ Fresh H b' := by simpa [z1, z2] using hb'
                obtain ⟨z3, z3', z4⟩ := hf'
                have nb4 := ne_fresh (e4 0) z4
                simp [h2, h3, h4, h7, h8, h9, h10, h11, h27, h28, z1, z2, z3, z3', z4]
                refine turnA_to (H.updO (some b') ((newL l1 AI (i + 1)).map (.int .i64))) ?_ ⟨⟨i + 1, some b'⟩, by simp only; omega, by simp only; omega, ⟨by simp [hns], by simp [nb4], z4⟩, by simp [h2, h3, h4, h7, h8, h9, h10, h11, h27, h28, hwi, hns, hal]⟩
                rw [hns]
                simp
                exact Drop.both (Drop.new (Drop.refl _) (by simp [z2]))
              · have k1I : ¬ (l1.length : Int) ≤ (i : Int) := by omega
                have k1' : i < l1.length := by omega
                have k1'I : (i : Int) < (l1.length : Int) := by omega
                obtain ⟨z, hz⟩ : ∃ z, z = l1[i] := ⟨_, rfl⟩
                have hz' : l1[i]'k1' = z := hz.symm
                have hgz : l1.getD i 0 = z := by simp [k1', hz]
                rw [hgz] at hns
                by_cases k2 : z.tmod 2 = 0
                · rw [if_pos (.inr k2)] at hns
                  simp [h2, h3, h4, h7, h8, h9, h10, h11, h27, h28, k0, k0I, k1, k1I, k1', k1'I, hz', k2, hal, hui, huI, ho2, e4, hy', intsA]
                  intro b1 hb1
                  simp at hb1
                  obtain ⟨z1, z2⟩ : ¬ o = some b1 ∧ Fresh H b1 := hb1
                  simp [h2, h3, h4, h7, h8, h9, h10, h11, h27, h28, z1, z2]
                  refine appendA_updO (by omega) (by omega) (by simpa using ho1.1) (by simp) (by simp) (by simp [z1, z2, ho3]) fun b' hb' => ?_
                  have hf' : ¬ b' = b1 ∧ ¬ b1 = b' ∧ Fresh H b' := by simpa [z1, z2] using hb'
                  obtain ⟨z3, z3', z4⟩ := hf'
                  have nb4 := ne_fresh (e4 0) z4
                  simp [h2, h3, h4, h7, h8, h9, h10, h11, h27, h28, z1, z2, z3, z3', z4]
                  refine turnA_to (H.updO (some b') ((newL l1 AI (i + 1)).map (.int .i64))) ?_ ⟨⟨i + 1, some b'⟩, by simp only; omega, by simp only; omega, ⟨by simp [hns], by simp [nb4], z4⟩, by simp [h2, h3, h4, h7, h8, h9, h10, h11, h27, h28, hwi, hns, hal]⟩
                  rw [hns]
                  simp
                  exact Drop.both (Drop.new (Drop.refl _) (by simp [z2]))
                · rw [if_neg (by rintro (q | q); exact k1 q; exact k2 q)] at hns
                  simp [h2, h3, h4, h7, h8, h9, h10, h11, h27, h28, k0, k0I, k1, k1I, k1', k1'I, hz', k2, hal, hui, huI, ho2, e4, hy', intsA]
                  exact turnA_self ⟨⟨i + 1, o⟩, by simp only; omega, by simp only; omega, by simp only; rw [hns]; exact ⟨ho1, ho2, ho3⟩, by simp [h2, h3, h4, h7, h8, h9, h10, h11, h27, h28, hwi, hns, hal]⟩
          · have huE : i = AI.length := by omega
            have huI : ¬ (i : Int) < (AI.length : Int) := by omega
            have hnl := newL_len l1 AI i
            simp [h2, h3, h4, h7, h8, h9, h10, h11, h27, h28, -lenA, lenA_listI, huI, hui]
            cases o with
            | none =>
              have hn0 := ho1.1 rfl
              exact turnA_self ⟨⟨k + 1, CI, [], (nn : Int)⟩, by simp only; omega, by simp only; omega, by simp only; omega, by simp, by simp [h2, h3, h4, h7, h8, h9, h10, h11, h27, h28, hwk, hn0, listI]⟩
            | some bb =>
              have hnz : ¬ newL l1 AI i = [] := fun q => by have := ho1.2 q; cases this
              rw [updO_some]
              refine turnA_slot 10 bb (newL l1 AI i) (by simp [h2, h3, h4, h7, h8, h9, h10, h11, h27, h28]) ho3 ⟨⟨k + 1, CI, newL l1 AI i, (nn : Int)⟩, by simp only; omega, by simp only; omega, by simp only; omega, by simp only; omega, by simp [h2, h3, h4, h7, h8, h9, h10, h11, h27, h28, hwk, listI, hnz]⟩
        · have hsp : 0 < r.size := pw_pos (by omega) _
          have hum := uM_lt (x := n) hsp
          have u1 : IntKind.u64.wrap (pw r.c r.m : Int) = (pw r.c r.m : Int) := wrap_u64 (by omega) (by have : (pw r.c r.m : Int) = (r.size : Int) := rfl; omega)
          have u2 : (IntKind.u64.wrap n).tmod (pw r.c r.m : Int) = (uM n r.size : Int) := uM_mod hsp
          have u3 : ¬ pw r.c r.m = 0 := by have : pw r.c r.m = r.size := rfl; omega
          have u4 : IntKind.i64.wrap (uM n r.size : Int) = (uM n r.size : Int) := wrap_i64 (by omega) (by omega)
          rw [if_neg hnn]
          simp [h2, h3, h4, h7, h8, h9, h10, h11, h16, h17, h18, e7]
          refine f2.use ?_
          by_cases g1 : n < 0
          · simp [h2, h3, h4, h7, h8, h9, h10, h11, h16, h17, h18, e7, e4, g1, u1, u2, u3, u4]
            refine e1.use ?_
            simp [h2, h3, h4, h7, h8, h9, h10, h11, h16, h17, h18, e7]
            refine e2.use ?_
            simp [h2, h3, h4, h7, h8, h9, h10, h11, h16, h17, h18]
            refine awp_loop_g (γ := At) (fun u t h => (u.i ≤ AI.length) ∧ ((u.o = none ↔ newL l1 AI u.i = []) ∧ ¬ u.o = some b4 ∧ FreshO H u.o) ∧ t 2 = .int .i64 (uM n r.size : Int) ∧ t 3 = .ptr b3 0 ∧ t 4 = .ptr b4 0 ∧ t 7 = .ptr b7 0 ∧ t 8 = .ptr b8 0 ∧ t 9 = listI CI ∧ t 10 = ownV u.o (newL l1 AI u.i).length 1 ∧ t 11 = .int .i64 k ∧ t 27 = listI AI ∧ t 28 = .int .i64 u.i ∧ h = H.updO u.o ((newL l1 AI u.i).map (.int .i64))) (fun u => AI.length - u.i) (⟨0, none⟩) (turnA_self (by simp [h2, h3, h4, h7, h8, h9, h10, h11, h16, h17, h18, newL])) ?_
            rintro u t hz ⟨hu, ho, h2, h3, h4, h7, h8, h9, h10, h11, h27, h28, ez⟩
            rw [ez]
            clear ez
            obtain ⟨i, o⟩ := u
            simp only at h2 h3 h4 h7 h8 h9 h10 h11 h27 h28 hu ho
            obtain ⟨ho1, ho2, ho3⟩ := ho
            by_cases hui : i < AI.length
            · have huI : (i : Int) < (AI.length : Int) := by omega
              have hwi : IntKind.i64.wrap ((i : Int) + 1) = (i : Int) + 1 := wrap_i64 (by omega) (by omega)
              have hAne : ¬ AI = [] := fun e => by rw [e] at hui; simp at hui
              have hal : listI AI = .sl AI.length (AI.map (.int .i64)) := by rw [listI_ne hAne]; rfl
              have hnl := newL_len l1 AI i
              obtain ⟨y, hy⟩ : ∃ y, y = AI[i] := ⟨_, rfl⟩
              have hy' : AI[i]'hui = y := hy.symm
              have hgy : AI.getD i 0 = y := by simp [hui, hy]
              have hns : newL l1 AI (i + 1) = if l1.length ≤ i ∨ (l1.getD i 0).tmod 2 = 0 then newL l1 AI i ++ [y] else newL l1 AI i := by rw [newL, hgy]
              simp [h2, h3, h4, h7, h8, h9, h10, h11, h27, h28, hal, hui, huI, ho2, e4]
              by_cases k0 : l1 = []
              · have k0l : l1.length = 0 := by rw [k0]; rfl
                rw [if_pos (by left; omega)] at hns
                have k0t : (l1 = []) = True := eq_true k0
                have k0I : (l1.length : Int) = 0 := by omega
                simp [h2, h3, h4, h7, h8, h9, h10, h11, h27, h28, k0t, k0I, hal, hui, huI, ho2, e4, hy', intsA]
                intro b1 hb1
                simp at hb1
                obtain ⟨z1, z2⟩ : ¬ o = some b1 ∧ Fresh H b1 := hb1
                simp [h2, h3, h4, h7, h8, h9, h10, h11, h27, h28, z1, z2]
                refine appendA_updO (by omega) (by omega) (by simpa using ho1.1) (by simp) (by simp) (by simp [z1, z2, ho3]) fun b' hb' => ?_
                have hf' : ¬ b' = b1 ∧ ¬ b1 = b' ∧ Fresh H b' := by simpa [z1, z2] using hb'
                obtain ⟨z3, z3', z4⟩ := hf'
                have nb4 := ne_fresh (e4 0) z4
                simp [h2, h3, h4, h7, h8, h9, h10, h11, h27, h28, z1, z2, z3, z3', z4]
                refine turnA_to (H.updO (some b') ((newL l1 AI (i + 1)).map (.int .i64))) ?_ ⟨⟨i + 1, some b'⟩, by simp only; omega, by simp only; omega, ⟨by simp [hns], by simp [nb4], z4⟩, by simp [h2, h3, h4, h7, h8, h9, h10, h11, h27, h28, hwi, hns, hal]⟩
                rw [hns]
                simp
                exact Drop.both (Drop.new (Drop.refl _) (by simp [z2]))
              · have k0I : ¬ (l1.length : Int) = 0 := by simpa using k0
                by_cases k1 : l1.length ≤ i
                · have k1I : (l1.length : Int) ≤ (i : Int) := by omega
                  rw [if_pos (.inl k1)] at hns
                  simp [h2, h3, h4, h7, h8, h9, h10, h11, h27, h28, k0, k0I, k1, k1I, hal, hui, huI, ho2, e4, hy', intsA]
                  intro b1 hb1
                  simp at hb1
                  obtain ⟨z1, z2⟩ : ¬ o = some b1 ∧ Fresh H b1 := hb1
                  simp [h2, h3, h4, h7, h8, h9, h10, h11, h27, h28, z1, z2]
                  refine appendA_updO (by omega) (by omega) (by simpa using ho1.1) (by simp) (by simp) (by simp [z1, z2, ho3]) fun b' hb' => ?_
                  have hf' : ¬ b' = b1 ∧ ¬ b1 = b' ∧ Fresh H b' := by simpa [z1, z2] using hb'
                  obtain ⟨z3, z3', z4⟩ := hf'
                  have nb4 := ne_fresh (e4 0) z4
                  simp [h2, h3, h4, h7, h8, h9, h10, h11, h27, h28, z1, z2, z3, z3', z4]
                  refine turnA_to (H.updO (some b') ((newL l1 AI (i + 1)).map (.int .i64))) ?_ ⟨⟨i + 1, some b'⟩, by simp only; omega, by simp only; omega, ⟨by simp [hns], by simp [nb4], z4⟩, by simp [h2, h3, h4, h7, h8, h9, h10, h11, h27, h28, hwi, hns, hal]⟩
                  rw [hns]
                  simp
                  exact Drop.both (Drop.new (Drop.refl _) (by simp [z2]))
                · have k1I : ¬ (l1.length : Int) ≤ (i : Int) := by omega
                  have k1' : i < l1.length := by omega
                  have k1'I : (i : Int) < (l1.length : Int) := by omega
                  obtain ⟨z, hz⟩ : ∃ z, z = l1[i] := ⟨_, rfl⟩
                  have hz' : l1[i]'k1' = z := hz.symm
                  have hgz : l1.getD i 0 = z := by simp [k1', hz]
                  rw [hgz] at hns
                  by_cases k2 : z.tmod 2 = 0
                  · rw [if_pos (.inr k2)] at hns
                    simp [h2, h3, h4, h7, h8, h9, h10, h11, h27, h28, k0, k0I, k1, k1I, k1', k1'I, hz', k2, hal, hui, huI, ho2, e4, hy', intsA]
                    intro b1 hb1
                    simp at hb1
                    obtain ⟨z1, z2⟩ : ¬ o = some b1 ∧ Fresh H b1 := hb1
                    simp [h2, h3, h4, h7, h8, h9, h10, h11, h27, h28, z1, z2]
                    refine appendA_updO (by omega) (by omega) (by simpa using ho1.1) (by simp) (by simp) (by simp [z1, z2, ho3]) fun b' hb' => ?_
                    have hf' : ¬ b' = b1 ∧ ¬ b1 = b' ∧ Fresh H b' := by simpa [z1, z2] using hb'
                    obtain ⟨z3, z3', z4⟩ := hf'
                    have nb4 := ne_fresh (e4 0) z4
                    simp [h2, h3, h4, h7, h8, h9, h10, h11, h27, h28, z1, z2, z3, z3', z4]
                    refine turnA_to (H.updO (some b') ((newL l1 AI (i + 1)).map (.int .i64))) ?_ ⟨⟨i + 1, some b'⟩, by simp only; omega, by simp only; omega, ⟨by simp [hns], by simp [nb4], z4⟩, by simp [h2, h3, h4, h7, h8, h9, h10, h11, h27, h28, hwi, hns, hal]⟩
                    rw [hns]
                    simp
                    exact Drop.both (Drop.new (Drop.refl _) (by simp [z2]))
                  · rw [if_neg (by rintro (q | q); exact k1 q; exact k2 q)] at hns
                    simp [h2, h3, h4, h7, h8, h9, h10, h11, h27, h28, k0, k0I, k1, k1I, k1', k1'I, hz', k2, hal, hui, huI, ho2, e4, hy', intsA]
                    exact turnA_self ⟨⟨i + 1, o⟩, by simp only; omega, by simp only; omega, by simp only; rw [hns]; exact ⟨ho1, ho2, ho3⟩, by simp [h2, h3, h4, h7, h8, h9, h10, h11, h27, h28, hwi, hns, hal]⟩
            · have huE : i = AI.length := by omega
              have huI : ¬ (i : Int) < (AI.length : Int) := by omega
              have hnl := newL_len l1 AI i
              simp [h2, h3, h4, h7, h8, h9, h10, h11, h27, h28, -lenA, lenA_listI, huI, hui]
              cases o with
              | none =>
                have hn0 := ho1.1 rfl
                exact turnA_self ⟨⟨k + 1, CI, [], (uM n r.size : Int)⟩, by simp only; omega, by simp only; omega, by simp only; omega, by simp, by simp [h2, h3, h4, h7, h8, h9, h10, h11, h27, h28, hwk, hn0, listI]⟩
              | some bb =>
                have hnz : ¬ newL l1 AI i = [] := fun q => by have := ho1.2 q; cases this
                rw [updO_some]
                refine turnA_slot 10 bb (newL l1 AI i) (by simp [h2, h3, h4, h7, h8, h9, h10, h11, h27, h28]) ho3 ⟨⟨k + 1, CI, newL l1 AI i, (uM n r.size : Int)⟩, by simp only; omega, by simp only; omega, by simp only; omega, by simp only; omega, by simp [h2, h3, h4, h7, h8, h9, h10, h11, h27, h28, hwk, listI, hnz]⟩
          · have g2 : (pw r.c r.m : Int) ≤ n := by
              have : ¬ n < (pw r.c r.m : Int) := fun q => hnn ⟨by omega, q⟩
              omega
            simp [h2, h3, h4, h7, h8, h9, h10, h11, h16, h17, h18, e7, e4, g1, g2, u1, u2, u3, u4]
            refine e1.use ?_
            simp [h2, h3, h4, h7, h8, h9, h10, h11, h16, h17, h18, e7]
            refine e2.use ?_
            simp [h2, h3, h4, h7, h8, h9, h10, h11, h16, h17, h18]
            refine awp_loop_g (γ := At) (fun u t h => (u.i ≤ AI.length) ∧ ((u.o = none ↔ newL l1 AI u.i = []) ∧ ¬ u.o = some b4 ∧ FreshO H u.o) ∧ t 2 = .int .i64 (uM n r.size : Int) ∧ t 3 = .ptr b3 0 ∧ t 4 = .ptr b4 0 ∧ t 7 = .ptr b7 0 ∧ t 8 = .ptr b8 0 ∧ t 9 = listI CI ∧ t 10 = ownV u.o (newL l1 AI u.i).length 1 ∧ t 11 = .int .i64 k ∧ t 27 = listI AI ∧ t 28 = .int .i64 u.i ∧ h = H.updO u.o ((newL l1 AI u.i).map (.int .i64))) (fun u => AI.length - u.i) (⟨0, none⟩) (turnA_self (by simp [h2, h3, h4, h7, h8, h9, h10, h11, h16, h17, h18, newL])) ?_
            rintro u t hz ⟨hu, ho, h2, h3, h4, h7, h8, h9, h10, h11, h27, h28, ez⟩
            rw [ez]
            clear ez
            obtain ⟨i, o⟩ := u
            simp only at h2 h3 h4 h7 h8 h9 h10 h11 h27 h28 hu ho
            obtain ⟨ho1, ho2, ho3⟩ := ho
            by_cases hui : i < AI.length
            · have huI : (i : Int) < (AI.length : Int) := by omega
              have hwi : IntKind.i64.wrap ((i : Int) + 1) = (i : Int) + 1 := wrap_i64 (by omega) (by omega)
              have hAne : ¬ AI = [] := fun e => by rw [e] at hui; simp at hui
              have hal : listI AI = .sl AI.length (AI.map (.int .i64)) := by rw [listI_ne hAne]; rfl
              have hnl := newL_len l1 AI i
              obtain ⟨y, hy⟩ : ∃ y, y = AI[i] := ⟨_, rfl⟩
              have hy' : AI[i]'hui = y := hy.symm
              have hgy : AI.getD i 0 = y := by simp [hui, hy]
              have hns : newL l1 AI (i + 1) = if l1.length ≤ i ∨ (l1.getD i 0).tmod 2 = 0 then newL l1 AI i ++ [y] else newL l1 AI i := by rw [newL, hgy]
              simp [h2, h3, h4, h7, h8, h9, h10, h11, h27, h28, hal, hui, huI, ho2, e4]
              by_cases k0 : l1 = []
              · have k0l : l1.length = 0 := by rw [k0]; rfl
                rw [if_pos (by left; omega)] at hns
                have k0t : (l1 = []) = True := eq_true k0
                have k0I : (l1.length : Int) = 0 := by omega
                simp [h2, h3, h4, h7, h8, h9, h10, h11, h27, h28, k0t, k0I, hal, hui, huI, ho2, e4, hy', intsA]
                intro b1 hb1
                simp at hb1
                obtain ⟨z1, z2⟩ : ¬ o = some b1 ∧ Fresh H b1 := hb1
                simp [h2, h3, h4, h7, h8, h9, h10, h11, h27, h28, z1, z2]
                refine appendA_updO (by omega) (by omega) (by simpa using ho1.1) (by simp) (by simp) (by simp [z1, z2, ho3]) fun b' hb' => ?_
                have hf' : ¬ b' = b1 ∧ ¬ b1 = b' ∧ Fresh H b' := by simpa [z1, z2] using hb'
                obtain ⟨z3, z3', z4⟩ := hf'
                have nb4 := ne_fresh (e4 0) z4
                simp [h2, h3, h4, h7, h8, h9, h10, h11, h27, h28, z1, z2, z3, z3', z4]
                refine turnA_to (H.updO (some b') ((newL l1 AI (i + 1)).map (.int .i64))) ?_ ⟨⟨i + 1, some b'⟩, by simp only; omega, by simp only; omega, ⟨by simp [hns], by simp [nb4], z4⟩, by simp [h2, h3, h4, h7, h8, h9, h10, h11, h27, h28, hwi, hns, hal]⟩
                rw [hns]
                simp
                exact Drop.both (Drop.new (Drop.refl _) (by simp [z2]))
              · have k0I : ¬ (l1.length : Int) = 0 := by simpa using k0
                by_cases k1 : l1.length ≤ i
                · have k1I : (l1.length : Int) ≤ (i : Int) := by omega
                  rw [if_pos (.inl k1)] at hns
                  simp [h2, h3, h4, h7, h8, h9, h10, h11, h27, h28, k0, k0I, k1, k1I, hal, hui, huI, ho2, e4, hy', intsA]
                  intro b1 hb1
                  simp at hb1
                  obtain ⟨z1, z2⟩ : ¬ o = some b1 ∧ Fresh H b1 := hb1
                  simp [h2, h3, h4, h7, h8, h9, h10, h11, h27, h28, z1, z2]
                  refine appendA_updO (by omega) (by omega) (by simpa using ho1.1) (by simp) (by simp) (by simp [z1, z2, ho3]) fun b' hb' => ?_
                  have hf' : ¬ b' = b1 ∧ ¬ b1 = b' ∧ Fresh H b' := by simpa [z1, z2] using hb'
                  obtain ⟨z3, z3', z4⟩ := hf'
                  have nb4 := ne_fresh (e4 0) z4
                  simp [h2, h3, h4, h7, h8, h9, h10, h11, h27, h28, z1, z2, z3, z3', z4]
                  refine turnA_to (H.updO (some b') ((newL l1 AI (i + 1)).map (.int .i64))) ?_ ⟨⟨i + 1, some b'⟩, by simp only; omega, by simp only; omega, ⟨by simp [hns], by simp [nb4], z4⟩, by simp [h2, h3, h4, h7, h8, h9, h10, h11, h27, h28, hwi, hns, hal]⟩
                  rw [hns]
                  simp
                  exact Drop.both (Drop.new (Drop.refl _) (by simp [z2]))
                · have k1I : ¬ (l1.length : Int) ≤ (i : Int) := by omega
                  have k1' : i < l1.length := by omega
                  have k1'I : (i : Int) < (l1.length : Int) := by omega
                  obtain ⟨z, hz⟩ : ∃ z, z = l1[i] := ⟨_, rfl⟩
                  have hz' : l1[i]'k1' = z := hz.symm
                  have hgz : l1.getD i 0 = z := by simp [k1', hz]
                  rw [hgz] at hns
                  by_cases k2 : z.tmod 2 = 0
                  · rw [if_pos (.inr k2)] at hns
                    simp [h2, h3, h4, h7, h8, h9, h10, h11, h27, h28, k0, k0I, k1, k1I, k1', k1'I, hz', k2, hal, hui, huI, ho2, e4, hy', intsA]
                    intro b1 hb1
                    simp at hb1
                    obtain ⟨z1, z2⟩ : ¬ o = some b1 ∧ Fresh H b1 := hb1
                    simp [h2, h3, h4, h7, h8, h9, h10, h11, h27, h28, z1, z2]
                    refine appendA_updO (by omega) (by omega) (by simpa using ho1.1) (by simp) (by simp) (by simp [z1, z2, ho3]) fun b' hb' => ?_
                    have hf' : ¬ b' = b1 ∧ ¬ b1 = b' ∧ Fresh H b' := by simpa [z1, z2] using hb'
                    obtain ⟨z3, z3', z4⟩ := hf'
                    have nb4 := ne_fresh (e4 0) z4
                    simp [h2, h3, h4, h7, h8, h9, h10, h11, h27, h28, z1, z2, z3, z3', z4]
                    refine turnA_to (H.updO (some b') ((newL l1 AI (i + 1)).map (.int .i64))) ?_ ⟨⟨i + 1, some b'⟩, by simp only; omega, by simp only; omega, ⟨by simp [hns], by simp [nb4], z4⟩, by simp [h2, h3, h4, h7, h8, h9, h10, h11, h27, h28, hwi, hns, hal]⟩
                    rw [hns]
                    simp
                    exact Drop.both (Drop.new (Drop.refl _) (by simp [z2]))
                  · rw [if_neg (by rintro (q | q); exact k1 q; exact k2 q)] at hns
                    simp [h2, h3, h4, h7, h8, h9, h10, h11, h27, h28, k0, k0I, k1, k1I, k1', k1'I, hz', k2, hal, hui, huI, ho2, e4, hy', intsA]
                    exact turnA_self ⟨⟨i + 1, o⟩, by simp only; omega, by simp only; omega, by simp only; rw [hns]; exact ⟨ho1, ho2, ho3⟩, by simp [h2, h3, h4, h7, h8, h9, h10, h11, h27, h28, hwi, hns, hal]⟩
            · have huE : i = AI.length := by omega
              have huI : ¬ (i : Int) < (AI.length : Int) := by omega
              have hnl := newL_len l1 AI i
              simp [h2, h3, h4, h7, h8, h9, h10, h11, h27, h28, -lenA, lenA_listI, huI, hui]
              cases o with
              | none =>
                have hn0 := ho1.1 rfl
                exact turnA_self ⟨⟨k + 1, CI, [], (uM n r.size : Int)⟩, by simp only; omega, by simp only; omega, by simp only; omega, by simp, by simp [h2, h3, h4, h7, h8, h9, h10, h11, h27, h28, hwk, hn0, listI]⟩
              | some bb =>
                have hnz : ¬ newL l1 AI i = [] := fun q => by have := ho1.2 q; cases this
                rw [updO_some]
                refine turnA_slot 10 bb (newL l1 AI i) (by simp [h2, h3, h4, h7, h8, h9, h10, h11, h27, h28]) ho3 ⟨⟨k + 1, CI, newL l1 AI i, (uM n r.size : Int)⟩, by simp only; omega, by simp only; omega, by simp only; omega, by simp only; omega, by simp [h2, h3, h4, h7, h8, h9, h10, h11, h27, h28, hwk, listI, hnz]⟩
    · have hEc : stepE r c m = confE r c := by unfold stepE; rw [if_pos he]
      simp [h2, h3, h4, h7, h8, h9, h10, h11, he, hEc]
      have f1 := w_Config r hr n
      rw [hav] at f1
      have f2 := r_Size r.m r.c q1 q2 q3 q4 q5
      simp [h2, h3, h4, h7, h8, h9, h10, h11, e8]
      refine f1.use ?_
      by_cases hnn : 0 ≤ n ∧ n < (r.size : Int)
      · have g1 : ¬ n < 0 := by omega
        have g2 : ¬ (pw r.c r.m : Int) ≤ n := by have : n < (pw r.c r.m : Int) := hnn.2; omega
        obtain ⟨nn, rfl⟩ : ∃ nn : Nat, n = nn := ⟨n.toNat, by omega⟩
        have hnsz : nn < r.size := by omega
        have f3 := r_Of r hr nn hnsz
        have hofl := ofF_len r.c r.m nn
        have hofn : ¬ ofF r.c r.m nn = [] := fun e => by rw [e] at hofl; simp at hofl; omega
        have hofI : natsA (ofF r.c r.m nn) = listI ((ofF r.c r.m nn).map fun x : Nat => (x : Int)) := by rw [nats_ints, listI_ne (by simpa using hofn)]
        have f4 := l_same ((ofF r.c r.m nn).map fun x : Nat => (x : Int)) ((ofF r.c r.m nn).map fun x : Nat => (x : Int)) (by simp; omega) (by simp; omega)
        rw [← hofI] at f4
        rw [hav] at f3
        rw [if_pos hnn, Int.toNat_natCast]
        simp [h2, h3, h4, h7, h8, h9, h10, h11, e7]
        refine f2.use ?_
        simp [h2, h3, h4, h7, h8, h9, h10, h11, e7, g1, g2]
        refine f3.use ?_
        simp [h2, h3, h4, h7, h8, h9, h10, h11]
        refine f4.use ?_
        simp [h2, h3, h4, h7, h8, h9, h10, h11, e7, e4]
        refine e1.use ?_
        simp [h2, h3, h4, h7, h8, h9, h10, h11, e7]
        refine e2.use ?_
        simp [h2, h3, h4, h7, h8, h9, h10, h11]
        refine awp_loop_g (γ := At) (fun u t h => (u.i ≤ AI.length) ∧ ((u.o = none ↔ newL l1 AI u.i = []) ∧ ¬ u.o = some b4 ∧ FreshO H u.o) ∧ t 2 = .int .i64 (nn : Int) ∧ t 3 = .ptr b3 0 ∧ t 4 = .ptr b4 0 ∧ t 7 = .ptr b7 0 ∧ t 8 = .ptr b8 0 ∧ t 9 = listI CI ∧ t 10 = ownV u.o (newL l1 AI u.i).length 1 ∧ t 11 = .int .i64 k ∧ t 27 = listI AI ∧ t 28 = .int .i64 u.i ∧ h = H.updO u.o ((newL l1 AI u.i).map (.int .i64))) (fun u => AI.length - u.i) (⟨0, none⟩) (turnA_self (by simp [h2, h3, h4, h7, h8, h9, h10, h11, newL])) ?_
        rintro u t hz ⟨hu, ho, h2, h3, h4, h7, h8, h9, h10, h11, h27, h28, ez⟩
        rw [ez]
        clear ez
        obtain ⟨i, o⟩ := u
        simp only at h2 h3 h4 h7 h8 h9 h10 h11 h27 h28 hu ho
        obtain ⟨ho1, ho2, ho3⟩ := ho
        by_cases hui : i < AI.length
        · have huI : (i : Int) < (AI.length : Int) := by omega
          have hwi : IntKind.i64.wrap ((i : Int) + 1) = (i : Int) + 1 := wrap_i64 (by omega) (by omega)
          have hAne : ¬ AI = [] := fun e => by rw [e] at hui; simp at hui
          have hal : listI AI = .sl AI.length (AI.map (.int .i64)) := by rw [listI_ne hAne]; rfl
          have hnl := newL_len l1 AI i
          obtain ⟨y, hy⟩ : ∃ y, y = AI[i] := ⟨_, rfl⟩
          have hy' : AI[i]'hui = y := hy.symm
          have hgy : AI.getD i 0 = y := by simp [hui, hy]
          have hns : newL l1 AI (i + 1) = if l1.length ≤ i ∨ (l1.getD i 0).tmod 2 = 0 then newL l1 AI i ++ [y] else newL l1 AI i := by rw [newL, hgy]
          simp [h2, h3, h4, h7, h8, h9, h10, h11, h27, h28, hal, hui, huI, ho2, e4]
          by_cases k0 : l1 = []
          · have k0l : l1.length = 0 := by rw [k0]; rfl
            rw [if_pos (by left; omega)] at hns
            have k0t : (l1 = []) = True := eq_true k0
            have k0I : (l1.length : Int) = 0 := by omega
            simp [h2, h3, h4, h7, h8, h9, h10, h11, h27, h28, k0t, k0I, hal, hui, huI, ho2, e4, hy', intsA]
            intro b1 hb1
            simp at hb1
            obtain ⟨z1, z2⟩ : ¬ o = some b1 ∧ Fresh H b1 := hb1
            simp [h2, h3, h4, h7, h8, h9, h10, h11, h27, h28, z1, z2]
            refine appendA_updO (by omega) (by omega) (by simpa using ho1.1) (by simp) (by simp) (by simp [z1, z2, ho3]) fun b' hb' => ?_
            have hf' : ¬ b' = b1 ∧ ¬ b1 = b' ∧ Fresh H b' := by simpa [z1, z2] using hb'
            obtain ⟨z3, z3', z4⟩ := hf'
            have nb4 := ne_fresh (e4 0) z4
            simp [h2, h3, h4, h7, h8, h9, h10, h11, h27, h28, z1, z2, z3, z3', z4]
            refine turnA_to (H.updO (some b') ((newL l1 AI (i + 1)).map (.int .i64))) ?_ ⟨⟨i + 1, some b'⟩, by simp only; omega, by simp only; omega, ⟨by simp [hns], by simp [nb4], z4⟩, by simp [h2, h3, h4, h7, h8, h9, h10, h11, h27, h28, hwi, hns, hal]⟩
            rw [hns]
            simp
            exact Drop.both (Drop.new (Drop.refl _) (by simp [z2]))
          · have k0I : ¬ (l1.length : Int) = 0 := by simpa using k0
            by_cases k1 : l1.length ≤ i
            · have k1I : (l1.length : Int) ≤ (i : Int) := by omega
              rw [if_pos (.inl k1)] at hns
              simp [h2, h3, h4, h7, h8, h9, h10, h11, h27, h28, k0, k0I, k1, k1I, hal, hui, huI, ho2, e4, hy', intsA]
              intro b1 hb1
              simp at hb1
              obtain ⟨z1, z2⟩ : ¬ o = some b1 ∧ Fresh H b1 := hb1
              simp [h2, h3, h4, h7, h8, h9, h10, h11, h27, h28, z1, z2]
              refine appendA_updO (by omega) (by omega) (by simpa using ho1.1) (by simp) (by simp) (by simp [z1, z2, ho3]) fun b' hb' => ?_
              have hf' : ¬ b' = b1 ∧ ¬ b1 = b' ∧ Fresh H b' := by simpa [z1, z2] using hb'
              obtain ⟨z3, z3', z4⟩ := hf'
              have nb4 := ne_fresh (e4 0) z4
              simp [h2, h3, h4, h7, h8, h9, h10, h11, h27, h28, z1, z2, z3, z3', z4]
              refine turnA_to (H.updO (some b') ((newL l1 AI (i + 1)).map (.int .i64))) ?_ ⟨⟨i + 1, some b'⟩, by simp only; omega, by simp only; omega, ⟨by simp [hns], by simp [nb4], z4⟩, by simp [h2, h3, h4, h7, h8, h9, h10, h11, h27, h28, hwi, hns, hal]⟩
              rw [hns]
              simp
              exact Drop.both (Drop.new (Drop.refl _) (by simp [z2]))
            · have k1I : ¬ (l1.length : Int) ≤ (i : Int) := by omega
              have k1' : i < l1.length := by omega
              have k1'I : (i : Int) < (l1.length : Int) := by omega
              obtain ⟨z, hz⟩ : ∃ z, z = l1[i] := ⟨_, rfl⟩
              have hz' : l1[i]'k1' = z := hz.symm
              have hgz : l1.getD i 0 = z := by simp [k1', hz]
              rw [hgz] at hns
              by_cases k2 : z.tmod 2 = 0
              · rw [if_pos (.inr k2)] at hns
                simp [h2, h3, h4, h7, h8, h9, h10, h11, h27, h28, k0, k0I, k1, k1I, k1', k1'I, hz', k2, hal, hui, huI, ho2, e4, hy', intsA]
                intro b1 hb1
                simp at hb1
                obtain ⟨z1, z2⟩ : ¬ o = some b1 ∧ Fresh H b1 := hb1
                simp [h2, h3, h4, h7, h8, h9, h10, h11, h27, h28, z1, z2]
                refine appendA_updO (by omega) (by omega) (by simpa using ho1.1) (by simp) (by simp) (by simp [z1, z2, ho3]) fun b' hb' => ?_
                have hf' : ¬ b' = b1 ∧ ¬ b1 = b' ∧ Fresh H b' := by simpa [z1, z2] using hb'
                obtain ⟨z3, z3', z4⟩ := hf'
                have nb4 := ne_fresh (e4 0) z4
                simp [h2, h3, h4, h7, h8, h9, h10, h11, h27, h28, z1, z2, z3, z3', z4]
                refine turnA_to (H.updO (some b') ((newL l1 AI (i + 1)).map (.int .i64))) ?_ ⟨⟨i + 1, some b'⟩, by simp only; omega, by simp only; omega, ⟨by simp [hns], by simp [nb4], z4⟩, by simp [h2, h3, h4, h7, h8, h9, h10, h11, h27, h28, hwi, hns, hal]⟩
                rw [hns]
                simp
                exact Drop.both (Drop.new (Drop.refl _) (by simp [z2]))
              · rw [if_neg (by rintro (q | q); exact k1 q; exact k2 q)] at hns
                simp [h2, h3, h4, h7, h8, h9, h10, h11, h27, h28, k0, k0I, k1, k1I, k1', k1'I, hz', k2, hal, hui, huI, ho2, e4, hy', intsA]
                exact turnA_self ⟨⟨i + 1, o⟩, by simp only; omega, by simp only; omega, by simp only; rw [hns]; exact ⟨ho1, ho2, ho3⟩, by simp [h2, h3, h4, h7, h8, h9, h10, h11, h27, h28, hwi, hns, hal]⟩
        · have huE : i = AI.length := by omega
          have huI : ¬ (i : Int) < (AI.length : Int) := by omega
          have hnl := newL_len l1 AI i
          simp [h2, h3, h4, h7, h8, h9, h10, h11, h27, h28, -lenA, lenA_listI, huI, hui]
          cases o with
          | none =>
            have hn0 := ho1.1 rfl
            exact turnA_self ⟨⟨k + 1, CI, [], (nn : Int)⟩, by simp only; omega, by simp only; omega, by simp only; omega, by simp, by simp [h2, h3, h4, h7, h8, h9, h10, h11, h27, h28, hwk, hn0, listI]⟩
          | some bb =>
            have hnz : ¬ newL l1 AI i = [] := fun q => by have := ho1.2 q; cases this
            rw [updO_some]
            refine turnA_slot 10 bb (newL l1 AI i) (by simp [h2, h3, h4, h7, h8, h9, h10, h11, h27, h28]) ho3 ⟨⟨k + 1, CI, newL l1 AI i, (nn : Int)⟩, by simp only; omega, by simp only; omega, by simp only; omega, by simp only; omega, by simp [h2, h3, h4, h7, h8, h9, h10, h11, h27, h28, hwk, listI, hnz]⟩
      · have hsp : 0 < r.size := pw_pos (by omega) _
        have hum := uM_lt (x := n) hsp
        have u1 : IntKind.u64.wrap (pw r.c r.m : Int) = (pw r.c r.m : Int) := wrap_u64 (by omega) (by have : (pw r.c r.m : Int) = (r.size : Int) := rfl; omega)
        have u2 : (IntKind.u64.wrap n).tmod (pw r.c r.m : Int) = (uM n r.size : Int) := uM_mod hsp
        have u3 : ¬ pw r.c r.m = 0 := by have : pw r.c r.m = r.size := rfl; omega
        have u4 : IntKind.i64.wrap (uM n r.size : Int) = (uM n r.size : Int) := wrap_i64 (by omega) (by omega)
        rw [if_neg hnn]
        simp [h2, h3, h4, h7, h8, h9, h10, h11, e7]
        refine f2.use ?_
        by_cases g1 : n < 0
        · simp [h2, h3, h4, h7, h8, h9, h10, h11, e7, e4, g1, u1, u2, u3, u4]
          refine e1.use ?_
          simp [h2, h3, h4, h7, h8, h9, h10, h11, e7]
          refine e2.use ?_
          simp [h2, h3, h4, h7, h8, h9, h10, h11]
          refine awp_loop_g (γ := At) (fun u t h => (u.i ≤ AI.length) ∧ ((u.o = none ↔ newL l1 AI u.i = []) ∧ ¬ u.o = some b4 ∧ FreshO H u.o) ∧ t 2 = .int .i64 (uM n r.size : Int) ∧ t 3 = .ptr b3 0 ∧ t 4 = .ptr b4 0 ∧ t 7 = .ptr b7 0 ∧ t 8 = .ptr b8 0 ∧ t 9 = listI CI ∧ t 10 = ownV u.o (newL l1 AI u.i).length 1 ∧ t 11 = .int .i64 k ∧ t 27 = listI AI ∧ t 28 = .int .i64 u.i ∧ h = H.updO u.o ((newL l1 AI u.i).map (.int .i64))) (fun u => AI.length - u.i) (⟨0, none⟩) (turnA_self (by simp [h2, h3, h4, h7, h8, h9, h10, h11, newL])) ?_
          rintro u t hz ⟨hu, ho, h2, h3, h4, h7, h8, h9, h10, h11, h27, h28, ez⟩
          rw [ez]
          clear ez
          obtain ⟨i, o⟩ := u
          simp only at h2 h3 h4 h7 h8 h9 h10 h11 h27 h28 hu ho
          obtain ⟨ho1, ho2, ho3⟩ := ho
          by_cases hui : i < AI.length
          · have huI : (i : Int) < (AI.length : Int) := by omega
            have hwi : IntKind.i64.wrap ((i : Int) + 1) = (i : Int) + 1 := wrap_i64 (by omega) (by omega)
            have hAne : ¬ AI = [] := fun e => by rw [e] at hui; simp at hui
            have hal : listI AI = .sl AI.length (AI.map (.int .i64)) := by rw [listI_ne hAne]; rfl
            have hnl := newL_len l1 AI i
            obtain ⟨y, hy⟩ : ∃ y, y = AI[i] := ⟨_, rfl⟩
            have hy' : AI[i]'hui = y := hy.symm
            have hgy : AI.getD i 0 = y := by simp [hui, hy]
            have hns : newL l1 AI (i + 1) = if l1.length ≤ i ∨ (l1.getD i 0).tmod 2 = 0 then newL l1 AI i ++ [y] else newL l1 AI i := by rw [newL, hgy]
            simp [h2, h3, h4, h7, h8, h9, h10, h11, h27, h28, hal, hui, huI, ho2, e4]
            by_cases k0 : l1 = []
            · have k0l : l1.length = 0 := by rw [k0]; rfl
              rw [if_pos (by left; omega)] at hns
              have k0t : (l1 = []) = True := eq_true k0
              have k0I : (l1.length : Int) = 0 := by omega
              simp [h2, h3, h4, h7, h8, h9, h10, h11, h27, h28, k0t, k0I, hal, hui, huI, ho2, e4, hy', intsA]
              intro b1 hb1
              simp at hb1
              obtain ⟨z1, z2⟩ : ¬ o = some b1 ∧ Fresh H b1 := hb1
              simp [h2, h3, h4, h7, h8, h9, h10, h11, h27, h28, z1, z2]
              refine appendA_updO (by omega) (by omega) (by simpa using ho1.1) (by simp) (by simp) (by simp [z1, z2, ho3]) fun b' hb' => ?_
              have hf' : ¬ b' = b1 ∧ ¬ b1 = b' ∧ Fresh H b' := by simpa [z1, z2] using hb'
              obtain ⟨z3, z3', z4⟩ := hf'
              have nb4 := ne_fresh (e4 0) z4
              simp [h2, h3, h4, h7, h8, h9, h10, h11, h27, h28, z1, z2, z3, z3', z4]
              refine turnA_to (H.updO (some b') ((newL l1 AI (i + 1)).map (.int .i64))) ?_ ⟨⟨i + 1, some b'⟩, by simp only; omega, by simp only; omega, ⟨by simp [hns], by simp [nb4], z4⟩, by simp [h2, h3, h4, h7, h8, h9, h10, h11, h27, h28, hwi, hns, hal]⟩
              rw [hns]
              simp
              exact Drop.both (Drop.new (Drop.refl _) (by simp [z2]))
            · have k0I : ¬ (l1.length : Int) = 0 := by simpa using k0
              by_cases k1 : l1.length ≤ i
              · have k1I : (l1.length : Int) ≤ (i : Int) := by omega
                rw [if_pos (.inl k1)] at hns
                simp [h2, h3, h4, h7, h8, h9, h10, h11, h27, h28, k0, k0I, k1, k1I, hal, hui, huI, ho2, e4, hy', intsA]
                intro b1 hb1
                simp at hb1
                obtain ⟨z1, z2⟩ : ¬ o = some b1 ∧ Fresh H b1 := hb1
                simp [h2, h3, h4, h7, h8, h9, h10, h11, h27, h28, z1, z2]
                refine appendA_updO (by omega) (by omega) (by simpa using ho1.1) (by simp) (by simp) (by simp [z1, z2, ho3]) fun b' hb' => ?_
                have hf' : ¬ b' = b1 ∧ ¬ b1 = b' ∧ Fresh H b' := by simpa [z1, z2] using hb'
                obtain ⟨z3, z3', z4⟩ := hf'
                have nb4 := ne_fresh (e4 0) z4
                simp [h2, h3, h4, h7, h8, h9, h10, h11, h27, h28, z1, z2, z3, z3', z4]
                refine turnA_to (H.updO (some b') ((newL l1 AI (i + 1)).map (.int .i64))) ?_ ⟨⟨i + 1, some b'⟩, by simp only; omega, by simp only; omega, ⟨by simp [hns], by simp [nb4], z4⟩, by simp [h2, h3, h4, h7, h8, h9, h10, h11, h27, h28, hwi, hns, hal]⟩
                rw [hns]
                simp
                exact Drop.both (Drop.new (Drop.refl _) (by simp [z2]))
              · have k1I : ¬ (l1.length : Int) ≤ (i : Int) := by omega
                have k1' : i < l1.length := by omega
                have k1'I : (i : Int) < (l1.length : Int) := by omega
                obtain ⟨z, hz⟩ : ∃ z, z = l1[i] := ⟨_, rfl⟩
                have hz' : l1[i]'k1' = z := hz.symm
                have hgz : l1.getD i 0 = z := by simp [k1', hz]
                rw [hgz] at hns
                by_cases k2 : z.tmod 2 = 0
                · rw [if_pos (.inr k2)] at hns
                  simp [h2, h3, h4, h7, h8, h9, h10, h11, h27, h28, k0, k0I, k1, k1I, k1', k1'I, hz', k2, hal, hui, huI, ho2, e4, hy', intsA]
                  intro b1 hb1
                  simp at hb1
                  obtain ⟨z1, z2⟩ : ¬ o = some b1 ∧ Fresh H b1 := hb1
                  simp [h2, h3, h4, h7, h8, h9, h10, h11, h27, h28, z1, z2]
                  refine appendA_updO (by omega) (by omega) (by simpa using ho1.1) (by simp) (by simp) (by simp [z1, z2, ho3]) fun b' hb' => ?_
                  have hf' : ¬ b' = b1 ∧ ¬ b1 = b' ∧ Fresh H b' := by simpa [z1, z2] using hb'
                  obtain ⟨z3, z3', z4⟩ := hf'
                  have nb4 := ne_fresh (e4 0) z4
                  simp [h2, h3, h4, h7, h8, h9, h10, h11, h27, h28, z1, z2, z3, z3', z4]
                  refine turnA_to (H.updO (some b') ((newL l1 AI (i + 1)).map (.int .i64))) ?_ ⟨⟨i + 1, some b'⟩, by simp only; omega, by simp only; omega, ⟨by simp [hns], by simp [nb4], z4⟩, by simp [h2, h3, h4, h7, h8, h9, h10, h11, h27, h28, hwi, hns, hal]⟩
                  rw [hns]
                  simp
                  exact Drop.both (Drop.new (Drop.refl _) (by simp [z2]))
                · rw [if_neg (by rintro (q | q); exact k1 q; exact k2 q)] at hns
                  simp [h2, h3, h4, h7, h8, h9, h10, h11, h27, h28, k0, k0I, k1, k1I, k1', k1'I, hz', k2, hal, hui, huI, ho2, e4, hy', intsA]
                  exact turnA_self ⟨⟨i + 1, o⟩, by simp only; omega, by simp only; omega, by simp only; rw [hns]; exact ⟨ho1, ho2, ho3⟩, by simp [h2, h3, h4, h7, h8, h9, h10, h11, h27, h28, hwi, hns, hal]⟩
          · have huE : i = AI.length := by omega
            have huI : ¬ (i : Int) < (AI.length : Int) := by omega
            have hnl := newL_len l1 AI i
            simp [h2, h3, h4, h7, h8, h9, h10, h11, h27, h28, -lenA, lenA_listI, huI, hui]
            cases o with
            | none =>
              have hn0 := ho1.1 rfl
              exact turnA_self ⟨⟨k + 1, CI, [], (uM n r.size : Int)⟩, by simp only; omega, by simp only; omega, by simp only; omega, by simp, by simp [h2, h3, h4, h7, h8, h9, h10, h11, h27, h28, hwk, hn0, listI]⟩
            | some bb =>
              have hnz : ¬ newL l1 AI i = [] := fun q => by have := ho1.2 q; cases this
              rw [updO_some]
              refine turnA_slot 10 bb (newL l1 AI i) (by simp [h2, h3, h4, h7, h8, h9, h10, h11, h27, h28]) ho3 ⟨⟨k + 1, CI, newL l1 AI i, (uM n r.size : Int)⟩, by simp only; omega, by simp only; omega, by simp only; omega, by simp only; omega, by simp [h2, h3, h4, h7, h8, h9, h10, h11, h27, h28, hwk, listI, hnz]⟩
        · have g2 : (pw r.c r.m : Int) ≤ n := by
            have : ¬ n < (pw r.c r.m : Int) := fun q => hnn ⟨by omega, q⟩
            omega
          simp [h2, h3, h4, h7, h8, h9, h10, h11, e7, e4, g1, g2, u1, u2, u3, u4]
          refine e1.use ?_
          simp [h2, h3, h4, h7, h8, h9, h10, h11, e7]
          refine e2.use ?_
          simp [h2, h3, h4, h7, h8, h9, h10, h11]
          refine awp_loop_g (γ := At) (fun u t h => (u.i ≤ AI.length) ∧ ((u.o = none ↔ newL l1 AI u.i = []) ∧ ¬ u.o = some b4 ∧ FreshO H u.o) ∧ t 2 = .int .i64 (uM n r.size : Int) ∧ t 3 = .ptr b3 0 ∧ t 4 = .ptr b4 0 ∧ t 7 = .ptr b7 0 ∧ t 8 = .ptr b8 0 ∧ t 9 = listI CI ∧ t 10 = ownV u.o (newL l1 AI u.i).length 1 ∧ t 11 = .int .i64 k ∧ t 27 = listI AI ∧ t 28 = .int .i64 u.i ∧ h = H.updO u.o ((newL l1 AI u.i).map (.int .i64))) (fun u => AI.length - u.i) (⟨0, none⟩) (turnA_self (by simp [h2, h3, h4, h7, h8, h9, h10, h11, newL])) ?_
          rintro u t hz ⟨hu, ho, h2, h3, h4, h7, h8, h9, h10, h11, h27, h28, ez⟩
          rw [ez]
          clear ez
          obtain ⟨i, o⟩ := u
          simp only at h2 h3 h4 h7 h8 h9 h10 h11 h27 h28 hu ho
          obtain ⟨ho1, ho2, ho3⟩ := ho
          by_cases hui : i < AI.length
          · have huI : (i : Int) < (AI.length : Int) := by omega
            have hwi : IntKind.i64.wrap ((i : Int) + 1) = (i : Int) + 1 := wrap_i64 (by omega) (by omega)
            have hAne : ¬ AI = [] := fun e => by rw [e] at hui; simp at hui
            have hal : listI AI = .sl AI.length (AI.map (.int .i64)) := by rw [listI_ne hAne]; rfl
            have hnl := newL_len l1 AI i
            obtain ⟨y, hy⟩ : ∃ y, y = AI[i] := ⟨_, rfl⟩
            have hy' : AI[i]'hui = y := hy.symm
            have hgy : AI.getD i 0 = y := by simp [hui, hy]
            have hns : newL l1 AI (i + 1) = if l1.length ≤ i ∨ (l1.getD i 0).tmod 2 = 0 then newL l1 AI i ++ [y] else newL l1 AI i := by rw [newL, hgy]
            simp [h2, h3, h4, h7, h8, h9, h10, h11, h27, h28, hal, hui, huI, ho2, e4]
            by_cases k0 : l1 = []
            · have k0l : l1.length = 0 := by rw [k0]; rfl
              rw [if_pos (by left; omega)] at hns
              have k0t : (l1 = []) = True := eq_true k0
              have k0I : (l1.length : Int) = 0 := by omega
              simp [h2, h3, h4, h7, h8, h9, h10, h11, h27, h28, k0t, k0I, hal, hui, huI, ho2, e4, hy', intsA]
              intro b1 hb1
              simp at hb1
              obtain ⟨z1, z2⟩ : ¬ o = some b1 ∧ Fresh H b1 := hb1
              simp [h2, h3, h4, h7, h8, h9, h10, h11, h27, h28, z1, z2]
              refine appendA_updO (by omega) (by omega) (by simpa using ho1.1) (by simp) (by simp) (by simp [z1, z2, ho3]) fun b' hb' => ?_
              have hf' : ¬ b' = b1 ∧ ¬ b1 = b' ∧ Fresh H b' := by simpa [z1, z2] using hb'
              obtain ⟨z3, z3', z4⟩ := hf'
              have nb4 := ne_fresh (e4 0) z4
              simp [h2, h3, h4, h7, h8, h9, h10, h11, h27, h28, z1, z2, z3, z3', z4]
              refine turnA_to (H.updO (some b') ((newL l1 AI (i + 1)).map (.int .i64))) ?_ ⟨⟨i + 1, some b'⟩, by simp only; omega, by simp only; omega, ⟨by simp [hns], by simp [nb4], z4⟩, by simp [h2, h3, h4, h7, h8, h9, h10, h11, h27, h28, hwi, hns, hal]⟩
              rw [hns]
              simp
              exact Drop.both (Drop.new (Drop.refl _) (by simp [z2]))
            · have k0I : ¬ (l1.length : Int) = 0 := by simpa using k0
              by_cases k1 : l1.length ≤ i
              · have k1I : (l1.length : Int) ≤ (i : Int) := by omega
                rw [if_pos (.inl k1)] at hns
                simp [h2, h3, h4, h7, h8, h9, h10, h11, h27, h28, k0, k0I, k1, k1I, hal, hui, huI, ho2, e4, hy', intsA]
                intro b1 hb1
                simp at hb1
                obtain ⟨z1, z2⟩ : ¬ o = some b1 ∧ Fresh H b1 := hb1
                simp [h2, h3, h4, h7, h8, h9, h10, h11, h27, h28, z1, z2]
                refine appendA_updO (by omega) (by omega) (by simpa using ho1.1) (by simp) (by simp) (by simp [z1, z2, ho3]) fun b' hb' => ?_
                have hf' : ¬ b' = b1 ∧ ¬ b1 = b' ∧ Fresh H b' := by simpa [z1, z2] using hb'
                obtain ⟨z3, z3', z4⟩ := hf'
                have nb4 := ne_fresh (e4 0) z4
                simp [h2, h3, h4, h7, h8, h9, h10, h11, h27, h28, z1, z2, z3, z3', z4]
                refine turnA_to (H.updO (some b') ((newL l1 AI (i + 1)).map (.int .i64))) ?_ ⟨⟨i + 1, some b'⟩, by simp only; omega, by simp only; omega, ⟨by simp [hns], by simp [nb4], z4⟩, by simp [h2, h3, h4, h7, h8, h9, h10, h11, h27, h28, hwi, hns, hal]⟩
                rw [hns]
                simp
                exact Drop.both (Drop.new (Drop.refl _) (by simp [z2]))
              · have k1I : ¬ (l1.length : Int) ≤ (i : Int) := by omega
                have k1' : i < l1.length := by omega
                have k1'I : (i : Int) < (l1.length : Int) := by omega
                obtain ⟨z, hz⟩ : ∃ z, z = l1[i] := ⟨_, rfl⟩
                have hz' : l1[i]'k1' = z := hz.symm
                have hgz : l1.getD i 0 = z := by simp [k1', hz]
                rw [hgz] at hns
                by_cases k2 : z.tmod 2 = 0
                · rw [if_pos (.inr k2)] at hns
                  simp [h2, h3, h4, h7, h8, h9, h10, h11, h27, h28, k0, k0I, k1, k1I, k1', k1'I, hz', k2, hal, hui, huI, ho2, e4, hy', intsA]
                  intro b1 hb1
                  simp at hb1
                  obtain ⟨z1, z2⟩ : ¬ o = some b1 ∧ Fresh H b1 := hb1
                  simp [h2, h3, h4, h7, h8, h9, h10, h11, h27, h28, z1, z2]
                  refine appendA_updO (by omega) (by omega) (by simpa using ho1.1) (by simp) (by simp) (by simp [z1, z2, ho3]) fun b' hb' => ?_
                  have hf' : ¬ b' = b1 ∧ ¬ b1 = b' ∧ Fresh H b' := by simpa [z1, z2] using hb'
                  obtain ⟨z3, z3', z4⟩ := hf'
                  have nb4 := ne_fresh (e4 0) z4
                  simp [h2, h3, h4, h7, h8, h9, h10, h11, h27, h28, z1, z2, z3, z3', z4]
                  refine turnA_to (H.updO (some b') ((newL l1 AI (i + 1)).map (.int .i64))) ?_ ⟨⟨i + 1, some b'⟩, by simp only; omega, by simp only; omega, ⟨by simp [hns], by simp [nb4], z4⟩, by simp [h2, h3, h4, h7, h8, h9, h10, h11, h27, h28, hwi, hns, hal]⟩
                  rw [hns]
                  simp
                  exact Drop.both (Drop.new (Drop.refl _) (by simp [z2]))
                · rw [if_neg (by rintro (q | q); exact k1 q; exact k2 q)] at hns
                  simp [h2, h3, h4, h7, h8, h9, h10, h11, h27, h28, k0, k0I, k1, k1I, k1', k1'I, hz', k2, hal, hui, huI, ho2, e4, hy', intsA]
                  exact turnA_self ⟨⟨i + 1, o⟩, by simp only; omega, by simp only; omega, by simp only; rw [hns]; exact ⟨ho1, ho2, ho3⟩, by simp [h2, h3, h4, h7, h8, h9, h10, h11, h27, h28, hwi, hns, hal]⟩
          · have huE : i = AI.length := by omega
            have huI : ¬ (i : Int) < (AI.length : Int) := by omega
            have hnl := newL_len l1 AI i
            simp [h2, h3, h4, h7, h8, h9, h10, h11, h27, h28, -lenA, lenA_listI, huI, hui]
            cases o with
            | none =>
              have hn0 := ho1.1 rfl
              exact turnA_self ⟨⟨k + 1, CI, [], (uM n r.size : Int)⟩, by simp only; omega, by simp only; omega, by simp only; omega, by simp, by simp [h2, h3, h4, h7, h8, h9, h10, h11, h27, h28, hwk, hn0, listI]⟩
            | some bb =>
              have hnz : ¬ newL l1 AI i = [] := fun q => by have := ho1.2 q; cases this
              rw [updO_some]
              refine turnA_slot 10 bb (newL l1 AI i) (by simp [h2, h3, h4, h7, h8, h9, h10, h11, h27, h28]) ho3 ⟨⟨k + 1, CI, newL l1 AI i, (uM n r.size : Int)⟩, by simp only; omega, by simp only; omega, by simp only; omega, by simp only; omega, by simp [h2, h3, h4, h7, h8, h9, h10, h11, h27, h28, hwk, listI, hnz]⟩
  · have hltI : ¬ (k : Int) < 2 := by omega
    simp [h2, h3, h4, h7, h8, h9, h10, h11, hltI]
    refine w_awake.use ?_
    simp
    exact finA_drop rfl
end Go.Proofs
