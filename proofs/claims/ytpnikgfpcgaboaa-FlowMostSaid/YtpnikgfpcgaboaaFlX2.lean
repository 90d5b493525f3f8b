/-
  The law FlowMost.
-/
import Derived.Test.YtpnikgfpcgaboaaFlL2
import Derived.Test.YtpnikgfpcgaboaaFlAwk
set_option linter.unusedSimpArgs false
set_option linter.unusedVariables false
set_option linter.unusedSectionVars false
namespace Go.Proofs
open Go Go.AH
set_option maxRecDepth 10000
set_option maxHeartbeats 4000000

theorem w_FlowMost (x : RNet) (hs : x.arcs.length ≤ 4611686018427387904) (a b : Int) : Pure Try.prog 4 [x.av, .agg [.int .i64 a, .int .i64 b]] (.bool true) := by
  refine pure_of (acalls_of Try.func4 rfl Try.call4 (by kernel_rfl) (by show _ ≤ (111 : Nat); simp) ?_)
  have ct := w_tame x hs 9 24 (by omega) (by omega)
  have hP2 := tameP_le x.n 9 (by omega)
  obtain ⟨P, hP⟩ : ∃ P, P = tameP x.n 9 := ⟨_, rfl⟩
  rw [← hP] at ct hP2
  have O := tame_ok (P := P) (by omega) x.arcs 24 (by omega)
  obtain ⟨R, hR⟩ : ∃ R, R = tameArcs P x.arcs 24 := ⟨_, rfl⟩
  rw [← hR] at ct O
  have hRl : R.length ≤ 200 := O.len
  obtain ⟨s, T, hs2, hT2, hst, ce⟩ := w_ends P (by omega) a b
  have cn := l_net P R (by omega)
  have cm := w_Most P R (by omega) s T
  have cc := w_Cut P R (by omega) s T
  have cf := fun fs (h : fs.length ≤ 1000000) => w_IsFlow P R (by omega) s T fs h
  have cr := fun fs (h : fs.length ≤ 1000000) => l_IsFlow P R (by omega) s T (ArcsV.l R) fs h
  have cl := fun v m L => l_Least P R O (ArcsV.l R) s T hs2 hT2 v m L
  have c0 := chk_of_ok O
  have e0 := ends_ok hs2 hT2 hst
  unfold netV at ct cn cm cc cf
  obtain ⟨V, hV⟩ : ∃ V, V = arcsL R := ⟨_, rfl⟩
  have hV1 : V.one = true := by rw [hV]; simp
  have hV2 : V.fit = true := by rw [hV]; simp
  have hV3 : V.cells = [V] := by rw [hV]; simp
  rw [← hV] at ct cn cm cc cr cl
  simp only [← hV] at cf
  have hx : x.av = .agg [.int .i64 x.n, arcsA x.arcs] := rfl
  rw [hx] at ct ⊢
  simp
  intro b2 hb2
  simp [arcsA]
  try simp [arcsA] at ct
  intro b3 hb3
  simp at hb3
  simp [hb3]
  refine ct.use ?_
  simp
  intro b5 hb5
  simp at hb5
  simp [hb5, hb3, hV1, hV2, hV3]
  refine ce.use ?_
  simp [hb5, hb3, hV1, hV2, hV3]
  refine cn.use ?_
  simp
  refine cm.use fun r hr => ?_
  unfold mostQ at hr
  rw [if_neg (by simp [c0]), if_neg (by simp [e0])] at hr
  obtain ⟨P1, s1, t1, v, left, lv, q1, q2, q3, _, _, _, _, v0, F, L, hc, rfl⟩ := hr
  obtain rfl : P = P1 := by omega
  obtain rfl : s = s1 := by omega
  obtain rfl : T = t1 := by omega
  have hl1 := least_of O hs2 hT2 v0 F L hc
  have hif := isFlow_most O hs2 hT2 hst F
  have hfl : (flowL R left).length ≤ 1000000 := by simp [flowL]; omega
  have cf1 := cf _ hfl
  have cr1 := cr _ hfl
  rw [hif] at cf1 cr1
  obtain ⟨FL, hFL⟩ : ∃ FL, FL = intL (flowL R left) := ⟨_, rfl⟩
  rw [← hFL] at cf1 cr1 ⊢
  simp [hb5, hb3, hV1, hV2, hV3]
  refine cn.use ?_
  simp
  refine cc.use fun r hr => ?_
  unfold cutQ at hr
  rw [if_neg (by simp [c0]), if_neg (by simp [e0])] at hr
  obtain ⟨P1, s1, t1, v', left', lv', q1, q2, q3, _, _, _, _, v0', F', L', hc', rfl⟩ := hr
  obtain rfl : P = P1 := by omega
  obtain rfl : s = s1 := by omega
  obtain rfl : T = t1 := by omega
  have hl2 := least_of O hs2 hT2 v0' F' L' hc'
  obtain ⟨e1, _⟩ := hl1.unique hl2
  subst e1
  have cl1 := cl _ _ hl2
  rw [mem_reach] at cl1
  have csm := w_same (reachL P lv') (by have := reachL_len P lv'; omega)
  obtain ⟨CL, hCL⟩ : ∃ CL, CL = natL (reachL P lv') := ⟨_, rfl⟩
  rw [← hCL] at cl1 csm ⊢
  simp [hb5, hb3, hV1, hV2, hV3]
  refine cl1.use ?_
  simp [hb5, hb3, hV1, hV2, hV3]
  refine cr1.use ?_
  simp
  refine csm.use ?_
  simp [hb5, hb3, hV1, hV2, hV3]
  refine cn.use ?_
  simp
  refine cf1.use ?_
  simp
  refine w_awake.use ?_
  simp
  exact finA_drop rfl
end Go.Proofs
