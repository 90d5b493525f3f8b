/-
  The law FlowEither.
-/
import Derived.Test.YtpnikgfpcgaboaaFlR4
import Derived.Test.YtpnikgfpcgaboaaFlAwk
set_option linter.unusedSimpArgs false
set_option linter.unusedVariables false
set_option linter.unusedSectionVars false
namespace Go.Proofs
open Go Go.AH
set_option maxRecDepth 10000
set_option maxHeartbeats 4000000

theorem w_FlowEither (x : RNet) (hs : x.arcs.length ≤ 4611686018427387904) (a b : Int) (sets : List Int) (hsets : sets.length ≤ 18000000000000) : Pure Try.prog 6 [x.av, .agg [.int .i64 a, .int .i64 b], intsA sets] (.bool true) := by
  refine pure_of (acalls_of Try.func6 rfl Try.call6 (by kernel_rfl) (by show _ ≤ (172 : Nat); simp) ?_)
  have ct := w_tame x hs 20 60 (by omega) (by omega)
  have hP2 := tameP_le x.n 20 (by omega)
  obtain ⟨P, hP⟩ : ∃ P, P = tameP x.n 20 := ⟨_, rfl⟩
  rw [← hP] at ct hP2
  have O := tame_ok (P := P) (by omega) x.arcs 60 (by omega)
  obtain ⟨R, hR⟩ : ∃ R, R = tameArcs P x.arcs 60 := ⟨_, rfl⟩
  rw [← hR] at ct O
  have hRl : R.length ≤ 200 := O.len
  obtain ⟨s, T, hs2, hT2, hst, ce⟩ := w_ends P (by omega) a b
  have cn := l_net P R (by omega)
  have cm := w_Most P R (by omega) s T
  have cc := w_Cut P R (by omega) s T
  have cf := fun fs (h : fs.length ≤ 1000000) => w_IsFlow P R (by omega) s T fs h
  have cca := fun m => capacity_mem O m
  have c0 := chk_of_ok O
  have e0 := ends_ok hs2 hT2 hst
  unfold netV at ct cn cm cc cf cca
  obtain ⟨V, hV⟩ : ∃ V, V = arcsL R := ⟨_, rfl⟩
  have hV1 : V.one = true := by rw [hV]; simp
  have hV2 : V.fit = true := by rw [hV]; simp
  have hV3 : V.cells = [V] := by rw [hV]; simp
  rw [← hV] at ct cn cm cc
  simp only [← hV] at cf cca
  have hx : x.av = .agg [.int .i64 x.n, arcsA x.arcs] := rfl
  rw [hx] at ct ⊢
  simp
  intro b3 hb3
  simp [arcsA]
  try simp [arcsA] at ct
  intro b4 hb4
  simp at hb4
  simp [hb4]
  refine ct.use ?_
  simp
  intro b7 hb7
  simp at hb7
  simp [hb7, hb4, hV1, hV2, hV3]
  refine ce.use ?_
  simp [hb7, hb4, hV1, hV2, hV3]
  refine cn.use ?_
  simp
  refine cm.use fun r hr => ?_
  unfold mostQ at hr
  rw [if_neg (by simp [c0]), if_neg (by simp [e0])] at hr
  obtain ⟨P1, s1, t1, v, left, lv, q1, q2, q3, _, _, _, _, v0, F, L, hc, rfl⟩ := hr
  obtain rfl : P = P1 := by omega
  obtain rfl : s = s1 := by omega
  obtain rfl : T = t1 := by omega
  have hl1 := least_of O hs2 hT2 v0 F L hc
  have hif := isFlow_most O hs2 hT2 hst F
  have hfl : (flowL R left).length ≤ 1000000 := by simp [flowL]; omega
  have cf1 := cf _ hfl
  rw [hif] at cf1
  obtain ⟨FL, hFL⟩ : ∃ FL, FL = intL (flowL R left) := ⟨_, rfl⟩
  rw [← hFL] at cf1 ⊢
  simp [hb7, hb4, hV1, hV2, hV3]
  refine cn.use ?_
  simp
  refine cc.use fun r hr => ?_
  unfold cutQ at hr
  rw [if_neg (by simp [c0]), if_neg (by simp [e0])] at hr
  obtain ⟨P1, s1, t1, v', left', lv', q1, q2, q3, _, _, _, _, v0', F', L', hc', rfl⟩ := hr
  obtain rfl : P = P1 := by omega
  obtain rfl : s = s1 := by omega
  obtain rfl : T = t1 := by omega
  have hl2 := least_of O hs2 hT2 v0' F' L' hc'
  obtain ⟨e1, _⟩ := hl1.unique hl2
  subst e1
  obtain ⟨m, hm⟩ : ∃ m, m = bitsOf (fun p => decide (0 ≤ lv' p)) P := ⟨_, rfl⟩
  rw [← hm] at hl2
  have hme := mem_reach (P := P) (lv := lv')
  rw [← hm] at hme
  rw [← hme]
  have cc1 := cca m
  have hmc : capB R (fun p => m.testBit p) R.length = v := hl2.mc
  rw [hmc] at cc1
  have hmlen := memL_len P m
  have ch := fun (k : Nat) (y : Int) => l_Has ((memL P k).map fun x : Nat => (x : Int)) (by have := memL_len P k; simp; omega) y
  simp only [← natL_int, mem_contains] at ch
  have chs := ch m s
  have cht := ch m T
  have es : (decide (0 ≤ (s : Int)) && decide ((s : Int) < P) && m.testBit (s : Int).toNat) = true := by simp [hs2, hl2.ms]
  have et : (decide (0 ≤ (T : Int)) && decide ((T : Int) < P) && m.testBit (T : Int).toNat) = false := by simp [hl2.mt]
  rw [es] at chs
  rw [et] at cht
  obtain ⟨C, hC⟩ : ∃ C, C = natL (memL P m) := ⟨_, rfl⟩
  have hCl : ∀ h, lenA Try.prog h 34 C = some (.int .i64 ((memL P m).length : Int)) := fun h => by rw [hC]; exact lenA_natL _
  rw [← hC] at cc1 chs cht ⊢
  simp [hb7, hb4, hV1, hV2, hV3]
  refine cn.use ?_
  simp
  refine cf1.use ?_
  simp [hb7, hb4, hV1, hV2, hV3]
  refine cn.use ?_
  simp
  refine cc1.use ?_
  simp
  refine chs.use ?_
  simp
  refine cht.use ?_
  simp
  refine awp_loop_g (γ := Nat) (fun i t h => (i ≤ sets.length) ∧ t 2 = intsA sets ∧ t 7 = .ptr b7 0 ∧ t 8 = .int .i64 s ∧ t 9 = .int .i64 T ∧ t 10 = .int .i64 v ∧ t 13 = C ∧ t 20 = .int .i64 i ∧ h = ((AHeap.empty.upd b3 (.cells [.int .i64 x.n, .sl x.arcs.length (arcC x.arcs)])).upd b4 (.cells [.int .i64 a, .int .i64 b])).upd b7 (.cells [.int .i64 P, V])) (fun i => sets.length - i) (0) (turnA_self (by simp [hb7, hb4])) ?_
  rintro i t h ⟨hi, h2, h7, h8, h9, h10, h13, h20, rfl⟩
  by_cases hlt : i < sets.length
  · have hltI : (i : Int) < (sets.length : Int) := by omega
    have hwi : IntKind.i64.wrap ((i : Int) + 1) = (i : Int) + 1 := wrap_i64 (by omega) (by omega)
    obtain ⟨y, hy⟩ : ∃ y, y = sets[i] := ⟨_, rfl⟩
    have hy' : sets[i]? = some y := by rw [hy]; exact List.getElem?_eq_getElem hlt
    have hSs : intsA sets = .sl sets.length (intC sets) := rfl
    by_cases h12 : i < 12
    · have h12I : (i : Int) < 12 := by omega
      have w1 : IntKind.u64.wrap (P : Int) = P := wrap_u64 (by omega) (by omega)
      have ws : IntKind.u64.wrap (s : Int) = s := wrap_u64 (by omega) (by omega)
      have wT : IntKind.u64.wrap (T : Int) = T := wrap_u64 (by omega) (by omega)
      have hpow : 2 ^ P ≤ 2 ^ 20 := Nat.pow_le_pow_right (by omega) hP2.2
      have hpow1 : 1 ≤ 2 ^ P := Nat.one_le_two_pow
      have sh : ∀ k : Nat, k ≤ 20 → IntKind.i64.wrap (2 ^ min k IntKind.i64.bits) = ((2 ^ k : Nat) : Int) := fun k hk => by
        have h1 : 2 ^ k ≤ 2 ^ 20 := Nat.pow_le_pow_right (by omega) hk
        have h2 : 1 ≤ 2 ^ k := Nat.one_le_two_pow
        rw [show min k IntKind.i64.bits = k from Nat.min_eq_left (show k ≤ 64 by omega), show ((2 : Int) ^ k) = ((2 ^ k : Nat) : Int) from by simp]
        exact wrap_i64 (by omega) (by omega)
      have shP := sh P hP2.2
      have shs := sh s (by omega)
      have shT := sh T (by omega)
      obtain ⟨N, hN⟩ : ∃ N, N = 2 ^ P - 1 := ⟨_, rfl⟩
      obtain ⟨S2, hS2⟩ : ∃ S2, S2 = 2 ^ s := ⟨_, rfl⟩
      obtain ⟨T2, hT2'⟩ : ∃ T2, T2 = 2 ^ T := ⟨_, rfl⟩
      rw [← hS2] at shs
      rw [← hT2'] at shT
      obtain ⟨P2, hP2'⟩ : ∃ P2, P2 = 2 ^ P := ⟨_, rfl⟩
      rw [← hP2'] at shP hN hpow hpow1
      have w3 : IntKind.i64.wrap ((P2 : Int) - 1) = (N : Int) := by rw [wrap_i64 (by omega) (by omega)]; omega
      simp [h2, h7, h8, h9, h10, h13, h20, hSs, hlt, hltI, h12I, hb7, hb4, w1, shP, w3]
      refine awp_draw_text (by kernel_rfl) [] [] (by kernel_rfl) (by kernel_rfl) (by simp) ?_
      simp [h2, h7, h8, h9, h10, h13, h20, hSs, hlt, hltI, intC_at hy', hb7, hb4, ws, wT, shs, shT]
      have b64 : ∀ k : Nat, k < 2 ^ 24 → k % 2 ^ IntKind.i64.bits = k := fun k hk => Nat.mod_eq_of_lt (by show k < 2 ^ 64; omega)
      have b64I : ∀ k : Nat, k < 2 ^ 24 → ((k : Int) % 2 ^ IntKind.i64.bits).toNat = k := fun k hk => by rw [show IntKind.i64.bits = 64 from rfl, Int.emod_eq_of_lt (by omega) (by omega)]; rfl
      have hwr : ∀ k : Nat, k < 2 ^ 24 → IntKind.i64.wrap (k : Int) = k := fun k hk => wrap_i64 (by omega) (by omega)
      obtain ⟨p, hp⟩ : ∃ p, p = (y % 2 ^ IntKind.i64.bits).toNat &&& N := ⟨_, rfl⟩
      have hpN : p < 2 ^ P := by rw [← hP2', hp]; exact Nat.lt_of_le_of_lt Nat.and_le_right (by omega)
      obtain ⟨z, hz, hzP, zs, zt⟩ := setNum hs2 hT2 (by omega) hpN hst
      rw [← hS2, ← hT2'] at hz
      obtain ⟨q, hq⟩ : ∃ q, q = p ||| S2 := ⟨_, rfl⟩
      have hpP : 2 ^ P ≤ 2 ^ 20 := Nat.pow_le_pow_right (by omega) hP2.2
      have hS24 : S2 < 2 ^ 24 := by rw [hS2]; exact Nat.pow_lt_pow_right (by omega) (by omega)
      have hT24 : T2 < 2 ^ 24 := by rw [hT2']; exact Nat.pow_lt_pow_right (by omega) (by omega)
      have hq24 : q < 2 ^ 24 := by rw [hq]; exact Nat.or_lt_two_pow (by omega) hS24
      have bN := b64 N (by omega)
      have bS := b64 S2 hS24
      have bT := b64 T2 hT24
      have wp := hwr p (by omega)
      have ip := b64I p (by omega)
      have ip' := b64 p (by omega)
      have wq := hwr q hq24
      have iq := b64I q hq24
      have iq' := b64 q hq24
      have wz := hwr z (by omega)
      have hmem := l_Members P z (by omega) (by omega)
      have ccz := cca z
      have chz := ch z
      obtain ⟨d1, d2⟩ := hl2.all z hzP zs zt
      obtain ⟨cz, hcz⟩ : ∃ cz, cz = capB R (fun p => z.testBit p) R.length := ⟨_, rfl⟩
      simp only [← hcz] at ccz d1 d2
      obtain ⟨Z, hZ⟩ : ∃ Z, Z = natL (memL P z) := ⟨_, rfl⟩
      rw [← hZ] at hmem ccz
      simp only [← hZ] at chz
      rw [← hq] at hz
      simp [bN, ← hp, wp, ip, ip', bS, ← hq, wq, iq, iq', bT, hz, wz]
      refine hmem.use ?_
      simp [h2, h7, h8, h9, h10, h13, h20, hb7, hb4, hV1, hV2, hV3]
      refine cn.use ?_
      simp
      refine ccz.use ?_
      have d3 : ¬ cz < v := by omega
      simp [h2, h7, h8, h9, h10, h13, h20, d3]
      by_cases e : cz = v
      · have hsub := d2 e
        simp [e]
        refine awp_loop_g (γ := Nat) (fun k t h => (k ≤ (memL P m).length) ∧ t 2 = intsA sets ∧ t 7 = .ptr b7 0 ∧ t 8 = .int .i64 s ∧ t 9 = .int .i64 T ∧ t 10 = .int .i64 v ∧ t 13 = C ∧ t 20 = .int .i64 i ∧ t 22 = Z ∧ t 25 = .int .i64 k ∧ h = ((AHeap.empty.upd b3 (.cells [.int .i64 x.n, .sl x.arcs.length (arcC x.arcs)])).upd b4 (.cells [.int .i64 a, .int .i64 b])).upd b7 (.cells [.int .i64 P, V])) (fun k => (memL P m).length - k) (0) (turnA_self (by simp [h2, h7, h8, h9, h10, h13, h20, hSs])) ?_
        rintro k t h ⟨hk, h2, h7, h8, h9, h10, h13, h20, h22, h25, rfl⟩
        by_cases hkl : k < (memL P m).length
        · have hklI : (k : Int) < ((memL P m).length : Int) := by omega
          have hwk : IntKind.i64.wrap ((k : Int) + 1) = (k : Int) + 1 := wrap_i64 (by omega) (by omega)
          obtain ⟨u, hu⟩ : ∃ u, u = (memL P m)[k] := ⟨_, rfl⟩
          have hu' : (memL P m)[k]? = some u := by rw [hu]; exact List.getElem?_eq_getElem hkl
          have hum : u < P ∧ m.testBit u = true := by
            have := List.mem_of_getElem? hu'
            simpa [memL] using this
          have hCV : C = .sl (memL P m).length (natC (memL P m)) := by
            rw [hC]; unfold natL; rw [if_neg (fun e => by rw [e] at hkl; simp at hkl)]
          have huz : z.testBit u = true := by
            have := congrArg (fun q => q.testBit u) hsub
            simp only [Nat.testBit_and, hum.2, Bool.true_and] at this
            exact this
          have chu := chz u
          rw [show (decide (0 ≤ (u : Int)) && decide ((u : Int) < P) && z.testBit (u : Int).toNat) = true from by simp [hum.1, huz]] at chu
          simp [h2, h7, h8, h9, h10, h13, h20, h22, h25, hCl, -lenA, hkl, hklI]
          simp [h2, h7, h8, h9, h10, h13, h20, h22, h25, hCV, hkl, hklI, natC_at hu']
          refine chu.use ?_
          simp [h2, h7, h8, h9, h10, h13, h20, h22, h25]
          exact turnA_self ⟨k + 1, by omega, by omega, by simp [h2, h7, h8, h9, h10, h13, h20, h22, h25, hwk, hCV]⟩
        · obtain rfl : k = (memL P m).length := by omega
          simp [h2, h7, h8, h9, h10, h13, h20, h22, h25, hCl, -lenA]
          exact turnA_self ⟨i + 1, by omega, by omega, by simp [h2, h7, h8, h9, h10, h13, h20, h22, h25, hwi, hSs]⟩
      · simp [h2, h7, h8, h9, h10, h13, h20, e]
        exact turnA_self ⟨i + 1, by omega, by omega, by simp [h2, h7, h8, h9, h10, h13, h20, hwi, hSs]⟩
    · have h12I : ¬ (i : Int) < 12 := by omega
      simp [h2, h7, h8, h9, h10, h13, h20, hSs, hlt, hltI, h12I]
      refine w_awake.use ?_
      simp
      exact finA_drop rfl
  · obtain rfl : i = sets.length := by omega
    have hSs : intsA sets = .sl sets.length (intC sets) := rfl
    simp [h2, h7, h8, h9, h10, h13, h20, hSs]
    refine w_awake.use ?_
    simp
    exact finA_drop rfl
end Go.Proofs
