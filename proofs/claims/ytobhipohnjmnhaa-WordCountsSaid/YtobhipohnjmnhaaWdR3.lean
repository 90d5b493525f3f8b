/-
  Walks: the reference's Words.
-/
import Derived.Test.YtobhipohnjmnhaaWdR2
set_option linter.unusedSimpArgs false
set_option linter.unusedVariables false
set_option linter.unusedSectionVars false
namespace Go.Proofs
open Go Go.AH
set_option maxRecDepth 10000
set_option maxHeartbeats 4000000

def cN (n : Nat) : Nat := if n = 0 then 1 else n
theorem nxI_zero (m : Dfa) (n s : Nat) (hs : s < m.next.length) : (nxF m n s).set s false = nxF m n s := by
  unfold nxF
  rw [List.set_append_right _ _ (by simp)]
  simp only [List.length_map, List.length_range, Nat.sub_self]
  rw [show m.next.length - s = (m.next.length - (s + 1)) + 1 from by omega, List.replicate_succ, List.set_cons_zero]
def bitI (m : Dfa) (n s i : Nat) : Bool := ((m.next.getD s []).take i).any fun t => (canR m n).getD t false
theorem bitI_zero (m : Dfa) (n s : Nat) : bitI m n s 0 = false := by simp [bitI]
theorem bitI_succ (m : Dfa) (n s i : Nat) (hs : s < m.next.length) (hi : i < m.next[s].length) : bitI m n s (i + 1) = (bitI m n s i || (canR m n).getD m.next[s][i] false) := by
  have h : m.next.getD s [] = m.next[s] := by simp [hs]
  rw [bitI, bitI, h, List.take_succ_eq_append_getElem hi, List.any_append]
  simp only [List.any_cons, List.any_nil, Bool.or_false]
theorem bitI_end (m : Dfa) (n s k : Nat) (hs : s < m.next.length) (hk : m.next[s].length = k) : (nxF m n s).set s (bitI m n s k) = nxF m n (s + 1) := by
  rw [nxF_succ m n s hs, bitI]
  have h : m.next.getD s [] = m.next[s] := by simp [hs]
  rw [h, List.take_of_length_le (by omega)]

theorem w_refWords (m : Dfa) (hm : m.ok) (most : Nat) (hmo1 : 1 ≤ most) (hmo2 : most ≤ 1000) : Pure Try.prog 21 [m.av, .int .i64 most] (ownS (wordsF m most)) := by
  refine pure_of (acalls_of Try.func21 rfl Try.call21 (by kernel_rfl) (by show _ ≤ (95 : Nat); simp) ?_)
  obtain ⟨t1, t2, t3⟩ := tEnd_spec m hm.wf most
  have hn1 := hm.n1
  have hn64 := hm.n64
  have hk4 := hm.k4
  have hgl := hm.gl
  have hgne : ∀ n, canR m n ≠ [] := by intro n e; have := canR_len hm.wf n; rw [e] at this; simp at this; omega
  obtain ⟨O, hO⟩ : ∃ O : Nat → List (List UInt8), O = fun i => (uptoL m i).take most := ⟨_, rfl⟩
  have hW : wordsF m most = O (tEnd m most) := by rw [hO]; rfl
  have hO0 : O 0 = [] := by rw [hO]; simp [uptoL]
  have hOl : ∀ i, (O i).length ≤ most := by intro i; rw [hO]; simp only [List.length_take]; omega
  have hOlt : ∀ i, (O i).length < most ↔ (uptoL m i).length < most := by intro i; rw [hO]; simp only [List.length_take]; omega
  have hOs : ∀ i, (O i).length < most → O (i + 1) = O i ++ (lenL m i).take (most - (O i).length) := by
    intro i h
    have h1 : O i = uptoL m i := by
      rw [hO] at h ⊢
      simp only [List.length_take] at h ⊢
      rw [List.take_of_length_le (by omega)]
    have h2 : O (i + 1) = (uptoL m i ++ lenL m i).take most := by rw [hO]; simp only [uptoL_succ]
    rw [h2, ← h1, List.take_append, List.take_of_length_le (hOl i)]
  rw [hW]
  have hT : tEnd m most ≤ 65000 := by
    have : most * (m.next.length + 1) ≤ 1000 * 65 := Nat.mul_le_mul (by omega) (by omega)
    omega
  generalize tEnd m most = T at t1 t2 t3 hT ⊢
  clear t3
  simp [Dfa.av]
  intro ba hba
  simp [boolsA, nrowsA]
  intro bc0 hbc0
  simp at hbc0
  simp [hbc0]
  refine awp_loop_g (γ := Nat × Option Nat × Nat) (fun g t h => (g.1 ≤ T) ∧ ((g.2.1 = none → O g.1 = []) ∧ ∀ b, g.2.1 = some b → ¬ O g.1 = [] ∧ Fresh AHeap.empty b ∧ ¬ b = ba ∧ ¬ ba = b ∧ ¬ b = g.2.2 ∧ ¬ g.2.2 = b) ∧ (Fresh AHeap.empty g.2.2 ∧ ¬ g.2.2 = ba ∧ ¬ ba = g.2.2) ∧ t 1 = .int .i64 most ∧ t 2 = .ptr ba 0 ∧ t 5 = ownV g.2.1 (O g.1).length 1 ∧ t 6 = .int .i64 (noneA m g.1) ∧ t 7 = .osl g.2.2 0 (cN g.1) 1 ∧ t 8 = .int .i64 g.1 ∧ h = ((AHeap.empty.upd ba (.cells [.int .i64 m.k, .sl m.next.length (m.next.map natsA), .sl m.good.length (m.good.map .bool)])).updO g.2.1 ((O g.1).map .str)).upd g.2.2 (.cells (canC m (cN g.1)))) (fun g => T - g.1) ((0, none, bc0)) (turnA_self (by simp [hO0, noneA, cN, canC_one, boolsA, hbc0])) ?_
  rintro g t h ⟨hn, ho, hbc, h1, h2, h5, h6, h7, h8, rfl⟩
  obtain ⟨n, o, bc⟩ := g
  simp only at h1 h2 h5 h6 h7 h8 hn ho hbc
  have hLl := hOl n
  have nopos : O n = [] → ¬ (O n).length < most → False := fun e q => by rw [e] at q; simp at q; omega
  have hnoI : (noneA m n : Int) ≤ m.next.length ↔ noneA m n ≤ m.next.length := by omega
  by_cases hlm : (O n).length < most
  · by_cases hcont : noneA m n ≤ m.next.length
    · have hnT : n < T := by
        rcases Nat.lt_or_ge n T with q | q
        · exact q
        · have : n = T := by omega
          subst this
          have := hOlt n; omega
      have hlc := canR_len hm.wf n
      have h0c : 0 < (canR m n).length := by omega
      have hbit : (canR m n).getD 0 false = (canR m n)[0] := by simp [h0c]
      have hsucc := hOs n hlm
      have hwn : IntKind.i64.wrap ((noneA m n : Int) + 1) = (noneA m n : Int) + 1 := wrap_i64 (by omega) (by omega)
      have hw1 : IntKind.i64.wrap ((n : Int) + 1) = (n : Int) + 1 := wrap_i64 (by omega) (by omega)
      have hnn : (n : Int) < n + 1 := by omega
      have hcn1 : cN (n + 1) = n + 1 := by simp [cN]
      have hCl : ((List.range (n + 1)).map (canR m)).length ≤ 100000000 := by simp; omega
      have hCr : ∀ r ∈ (List.range (n + 1)).map (canR m), r.length = m.next.length := by intro r hr; obtain ⟨i, _, rfl⟩ := List.mem_map.1 hr; exact canR_len hm.wf i
      have hwm : IntKind.i64.wrap ((most : Int) - (O n).length) = ((most - (O n).length : Nat) : Int) := by rw [wrap_i64 (by omega) (by omega)]; omega
      have hwm0 : IntKind.i64.wrap (most : Int) = (most : Int) := wrap_i64 (by omega) (by omega)
      have hRl : ((lenL m n).take (most - (O n).length)).length ≤ most - (O n).length := by rw [List.length_take]; omega
      rcases o with _ | b
      · have e := ho.1 rfl
        have hpos : 0 < most := by omega
        by_cases hn0 : n = 0
        · have hnp : ¬ 0 < n := by omega
          have hcn0 : cN n = n + 1 := by simp [cN, hn0]
          simp [h1, h2, h5, h6, h7, h8, e, hpos, hbc, hlm, hnoI, hcont, hcn0, hnp]
          simp [h1, h2, h5, h6, h7, h8, e, hpos, hbc, hcn0, boolsA, h0c, hnn]
          refine condA_case ?_ ?_
          · intro hb
            have hb' : (canR m n)[0] = false := by simpa using hb
            have hna : noneA m (n + 1) = noneA m n + 1 := by rw [noneA, hbit, hb']; rfl
            have hlen0 : lenL m n = [] := by rw [lenL, hbit, hb']; rfl
            have hs0 : O (n + 1) = O n := by rw [hsucc, hlen0]; simp
            simp [h1, h2, h5, h6, h7, h8, hwn]
            exact turnA_to _ (Drop.refl _) ⟨n + 1, by omega, by omega, none, bc, by rw [hs0]; simp [e, hpos, hbc, hcn0], by simp [e, hpos, hbc, hcn0], by simp [h1, h2, h5, h6, h7, h8, e, hpos, hbc, hcn0, hw1, hna, hcn1, hs0]⟩
          · intro hb
            have hb' : (canR m n)[0] = true := by simpa using hb
            have hna : noneA m (n + 1) = 0 := by rw [noneA, hbit, hb']; rfl
            have hlen1 : lenL m n = spellL m (cF ((List.range (n + 1)).map (canR m))) n 0 [] := by
              rw [lenL, hbit, hb', if_pos rfl]
              refine spellL_congr m _ _ n 0 [] fun i hi => ?_
              simp [cF, show i < n + 1 from by omega]
            have c1 := w_refwords m hm ((List.range (n + 1)).map (canR m)) hCl hCr bc ((AHeap.empty.upd ba (.cells [.int .i64 m.k, .sl m.next.length (m.next.map natsA), .sl m.good.length (m.good.map .bool)])).upd bc (.cells (canC m (n + 1)))) (by intro off; show _ = some ((canC m (n + 1)).drop off); simp) n (by simp) 0 (by omega) [] (by simp; omega) (most - (O n).length) (by omega) (by omega)
            rw [← hlen1] at c1
            generalize (lenL m n).take (most - (O n).length) = R at hsucc hRl c1
            simp [h1, h2, h5, h6, h7, h8, e, hpos, hbc, hcn0, hwm, hwm0]
            refine (show ACalls _ _ _ _ _ from by simpa [Dfa.av, nrowsA, boolsA, e, hpos, hbc, hcn0] using c1).use ?_
            cases R with
            | nil =>
              simp only [List.append_nil] at hsucc
              simp [h1, h2, h5, h6, h7, h8, e, hpos, hbc, hcn0, ownS]
              exact turnA_to _ ((Drop.refl _)) ⟨n + 1, by omega, by omega, none, bc, by simp [e, hpos, hbc, hcn0, hsucc], by simp [e, hpos, hbc, hcn0], by simp [h1, h2, h5, h6, h7, h8, e, hpos, hbc, hcn0, hw1, hna, hcn1, hsucc]⟩
            | cons x R =>
              simp only [List.length_cons] at hRl
              simp [h1, h2, h5, h6, h7, h8, e, hpos, hbc, hcn0, ownS, strsA]
              refine ⟨by omega, fun b' hb' => ?_⟩
              simp [e, hpos, hbc, hcn0] at hb'
              simp [h1, h2, h5, h6, h7, h8, e, hpos, hbc, hcn0, hb']
              exact turnA_to _ ((Drop.refl _)).both ⟨n + 1, by omega, by omega, some b', bc, by simp [e, hpos, hbc, hcn0, hsucc, hb'], by simp [e, hpos, hbc, hcn0], by (simp [h1, h2, h5, h6, h7, h8, e, hpos, hbc, hcn0, hw1, hna, hcn1, hsucc, hb', boolsA];refine AHeap.upd_comm ?_;simp [hb'])⟩
        · have hn0' : 0 < n := by omega
          have hcn0 : cN n = n := by simp [cN, hn0]
          simp [h1, h2, h5, h6, h7, h8, e, hpos, hbc, hlm, hnoI, hcont, hn0']
          obtain ⟨p, hp⟩ : ∃ p, n = p + 1 := ⟨n - 1, by omega⟩
          have hpn : canR m (p + 1) = canR m n := by rw [hp]
          have hwp : IntKind.i64.wrap ((n : Int) - 1) = p := by rw [wrap_i64 (by omega) (by omega)]; omega
          have hplt : p < n := by omega
          have hlp := canR_len hm.wf p
          refine ⟨by omega, fun b9 hb9 => ?_⟩
          simp [e, hpos] at hb9
          simp [h1, h2, h5, h6, h7, h8, e, hpos, hb9, hbc]
          refine awp_loop_t (γ := Nat) (fun s t h => (s ≤ m.next.length) ∧ t 1 = .int .i64 most ∧ t 2 = .ptr ba 0 ∧ t 6 = .int .i64 (noneA m n) ∧ t 7 = .osl bc 0 (cN n) 1 ∧ t 8 = .int .i64 n ∧ t 5 = .nilsl ∧ t 9 = .osl b9 0 m.next.length 1 ∧ t 10 = .int .i64 s ∧ h = ((AHeap.empty.upd ba (.cells [.int .i64 m.k, .sl m.next.length (m.next.map natsA), .sl m.good.length (m.good.map .bool)])).upd bc (.cells (canC m (cN n)))).upd b9 (.cells ((nxF m p s).map .bool))) (fun s => m.next.length - s) (0) (turnA_self (by simp [h1, h2, h5, h6, h7, h8, e, hpos, nxF])) ?_
          rintro s t h ⟨hs, h1, h2, h6, h7, h8, h5, h9, h10, rfl⟩
          have hnl := nxF_len m p s hs
          by_cases hlt : s < m.next.length
          · have hrow : m.next[s].length = m.k := hm.rl _ (List.getElem_mem hlt)
            have hw : IntKind.i64.wrap ((s : Int) + 1) = (s : Int) + 1 := wrap_i64 (by omega) (by omega)
            have hz : ((nxF m p s).map AV.bool).set s (.bool (bitI m p s 0)) = (nxF m p s).map AV.bool := by rw [bitI_zero, ← List.map_set, nxI_zero m p s hlt]
            simp [h1, h2, h6, h7, h8, h5, h9, h10, e, hpos, hb9, hbc, hlt]
            refine awp_loop_g (γ := Nat) (fun i t h => (i ≤ m.k) ∧ t 1 = .int .i64 most ∧ t 2 = .ptr ba 0 ∧ t 6 = .int .i64 (noneA m n) ∧ t 7 = .osl bc 0 (cN n) 1 ∧ t 8 = .int .i64 n ∧ t 9 = .osl b9 0 m.next.length 1 ∧ t 5 = .nilsl ∧ t 10 = .int .i64 s ∧ t 11 = .int .i64 i ∧ h = ((AHeap.empty.upd ba (.cells [.int .i64 m.k, .sl m.next.length (m.next.map natsA), .sl m.good.length (m.good.map .bool)])).upd bc (.cells (canC m (cN n)))).upd b9 (.cells (((nxF m p s).map .bool).set s (.bool (bitI m p s i))))) (fun i => m.k - i) (0) (turnA_self (by simp [h1, h2, h6, h7, h8, h5, h9, h10, e, hpos, hz])) ?_
            rintro i t h ⟨hi, h1, h2, h6, h7, h8, h9, h5, h10, h11, rfl⟩
            by_cases hlti : i < m.k
            · have hjr : i < m.next[s].length := by omega
              have hx : m.next[s][i] < m.next.length := hm.lt _ (List.getElem_mem hlt) _ (List.getElem_mem hjr)
              have hxc : m.next[s][i] < (canR m p).length := by omega
              have hbs := bitI_succ m p s i hlt hjr
              have hgx : (canR m p).getD m.next[s][i] false = (canR m p)[m.next[s][i]] := by simp [hxc]
              rw [hgx] at hbs
              have hwi : IntKind.i64.wrap ((i : Int) + 1) = (i : Int) + 1 := wrap_i64 (by omega) (by omega)
              simp [h1, h2, h6, h7, h8, h9, h5, h10, h11, e, hpos, hb9, hbc, hlti]
              cases hbi : bitI m p s i with
              | true =>
                rw [hbi, Bool.true_or] at hbs
                refine awp_draw_text (by kernel_rfl) [] [] (by kernel_rfl) (by kernel_rfl) (by simp) ?_
                simp [h1, h2, h6, h7, h8, h9, h5, h10, h11, e, hpos, hb9, hbc, hlt, hnl, hbi]
                exact ⟨by omega, turnA_self ⟨i + 1, by omega, by omega, by simp [h1, h2, h6, h7, h8, h9, h5, h10, h11, e, hpos, hwi, hbs, hbi]⟩⟩
              | false =>
                rw [hbi, Bool.false_or] at hbs
                refine awp_draw_text (by kernel_rfl) [] [] (by kernel_rfl) (by kernel_rfl) (by simp) ?_
                simp [h1, h2, h6, h7, h8, h9, h5, h10, h11, e, hpos, hb9, hbc, hlt, hlti, hnl, hbi, hcn0, hwp, hplt, hjr, hrow, hx, hxc, boolsA, natsA]
                exact ⟨by omega, turnA_self ⟨i + 1, by omega, by omega, by simp [h1, h2, h6, h7, h8, h9, h5, h10, h11, e, hpos, hwi, hbs, hbi, hcn0]⟩⟩
            · obtain rfl : i = m.k := by omega
              have hend : ((nxF m p s).map AV.bool).set s (.bool (bitI m p s m.k)) = (nxF m p (s + 1)).map AV.bool := by rw [← List.map_set, bitI_end m p s m.k hlt hrow]
              simp [h1, h2, h6, h7, h8, h9, h5, h10, h11, e, hpos, hb9, hbc]
              exact turnA_self ⟨s + 1, by omega, by omega, by simp [h1, h2, h6, h7, h8, h9, h5, h10, h11, e, hpos, hw, hend]⟩
          · obtain rfl : s = m.next.length := by omega
            simp [h1, h2, h6, h7, h8, h5, h9, h10, e, hpos, hb9, hbc]
            refine turnA_row 9 b9 (n := m.next.length) (es := 1) (cs := (nxF m p m.next.length).map .bool) h9 (by simp) (by simp [hnl]) bools_frozen ?_
            have hrowA : AV.sl m.next.length ((nxF m p m.next.length).map .bool) = boolsA (canR m n) := by rw [nxF_end, hpn]; simp [boolsA, hlc]
            rw [hrowA]
            simp [h1, h2, h6, h7, h8, h5, h9, h10, e, hpos, hb9, hbc]
            intro b10 hb10
            simp [e, hpos] at hb10
            simp [h1, h2, h6, h7, h8, h5, h9, h10, e, hpos, hb9, hbc, hb10, hcn0]
            refine ⟨by omega, fun bc' hbc' => ?_⟩
            simp [e, hpos] at hbc'
            rw [← canC_succ]
            simp [h1, h2, h6, h7, h8, h5, h9, h10, e, hpos, hb9, hbc, hb10, hbc']
            simp [h1, h2, h6, h7, h8, h5, h9, h10, e, hpos, hb10, hbc', boolsA, h0c, hnn]
            refine condA_case ?_ ?_
            · intro hb
              have hb' : (canR m n)[0] = false := by simpa using hb
              have hna : noneA m (n + 1) = noneA m n + 1 := by rw [noneA, hbit, hb']; rfl
              have hlen0 : lenL m n = [] := by rw [lenL, hbit, hb']; rfl
              have hs0 : O (n + 1) = O n := by rw [hsucc, hlen0]; simp
              simp [h1, h2, h6, h7, h8, h5, h9, h10, hwn]
              exact turnA_to _ (((Drop.refl _).new (by simp [e, hpos, hb10])).both) ⟨n + 1, by omega, by omega, none, bc', by rw [hs0]; simp [e, hpos, hb10, hbc'], by simp [e, hpos, hb10, hbc'], by simp [h1, h2, h6, h7, h8, h5, h9, h10, e, hpos, hb10, hbc', hw1, hna, hcn1, hs0]⟩
            · intro hb
              have hb' : (canR m n)[0] = true := by simpa using hb
              have hna : noneA m (n + 1) = 0 := by rw [noneA, hbit, hb']; rfl
              have hlen1 : lenL m n = spellL m (cF ((List.range (n + 1)).map (canR m))) n 0 [] := by
                rw [lenL, hbit, hb', if_pos rfl]
                refine spellL_congr m _ _ n 0 [] fun i hi => ?_
                simp [cF, show i < n + 1 from by omega]
              have c1 := w_refwords m hm ((List.range (n + 1)).map (canR m)) hCl hCr bc' (((AHeap.empty.upd ba (.cells [.int .i64 m.k, .sl m.next.length (m.next.map natsA), .sl m.good.length (m.good.map .bool)])).upd b10 (.cells [boolsA (canR m n)])).upd bc' (.cells (canC m (n + 1)))) (by intro off; show _ = some ((canC m (n + 1)).drop off); simp) n (by simp) 0 (by omega) [] (by simp; omega) (most - (O n).length) (by omega) (by omega)
              rw [← hlen1] at c1
              generalize (lenL m n).take (most - (O n).length) = R at hsucc hRl c1
              simp [h1, h2, h6, h7, h8, h5, h9, h10, e, hpos, hb10, hbc', hwm, hwm0]
              refine (show ACalls _ _ _ _ _ from by simpa [Dfa.av, nrowsA, boolsA, e, hpos, hb10, hbc'] using c1).use ?_
              cases R with
              | nil =>
                simp only [List.append_nil] at hsucc
                simp [h1, h2, h6, h7, h8, h5, h9, h10, e, hpos, hb10, hbc', ownS]
                exact turnA_to _ ((((Drop.refl _).new (by simp [e, hpos, hb10])).both)) ⟨n + 1, by omega, by omega, none, bc', by simp [e, hpos, hb10, hbc', hsucc], by simp [e, hpos, hb10, hbc'], by simp [h1, h2, h6, h7, h8, h5, h9, h10, e, hpos, hb10, hbc', hw1, hna, hcn1, hsucc]⟩
              | cons x R =>
                simp only [List.length_cons] at hRl
                simp [h1, h2, h6, h7, h8, h5, h9, h10, e, hpos, hb10, hbc', ownS, strsA]
                refine ⟨by omega, fun b' hb' => ?_⟩
                simp [e, hpos, hb10, hbc'] at hb'
                simp [h1, h2, h6, h7, h8, h5, h9, h10, e, hpos, hb10, hbc', hb']
                exact turnA_to _ ((((Drop.refl _).new (by simp [e, hpos, hb10])).both)).both ⟨n + 1, by omega, by omega, some b', bc', by simp [e, hpos, hb10, hbc', hsucc, hb'], by simp [e, hpos, hb10, hbc'], by (simp [h1, h2, h6, h7, h8, h5, h9, h10, e, hpos, hb10, hbc', hw1, hna, hcn1, hsucc, hb', boolsA];refine AHeap.upd_comm ?_;simp [hb'])⟩
      · obtain ⟨hne, hfb, hb1, hb2, hb3, hb4⟩ := ho.2 b rfl
        by_cases hn0 : n = 0
        · have hnp : ¬ 0 < n := by omega
          have hcn0 : cN n = n + 1 := by simp [cN, hn0]
          simp [h1, h2, h5, h6, h7, h8, hne, hb1, hb2, hb3, hb4, hbc, hlm, hnoI, hcont, hcn0, hnp]
          simp [h1, h2, h5, h6, h7, h8, hne, hb1, hb2, hb3, hb4, hbc, hcn0, boolsA, h0c, hnn]
          refine condA_case ?_ ?_
          · intro hb
            have hb' : (canR m n)[0] = false := by simpa using hb
            have hna : noneA m (n + 1) = noneA m n + 1 := by rw [noneA, hbit, hb']; rfl
            have hlen0 : lenL m n = [] := by rw [lenL, hbit, hb']; rfl
            have hs0 : O (n + 1) = O n := by rw [hsucc, hlen0]; simp
            simp [h1, h2, h5, h6, h7, h8, hwn]
            exact turnA_to _ (Drop.refl _) ⟨n + 1, by omega, by omega, (some b), bc, by rw [hs0]; simp [hne, hb1, hb2, hb3, hb4, hbc, hcn0], by simp [hne, hb1, hb2, hb3, hb4, hbc, hcn0], by simp [h1, h2, h5, h6, h7, h8, hne, hb1, hb2, hb3, hb4, hbc, hcn0, hw1, hna, hcn1, hs0]⟩
          · intro hb
            have hb' : (canR m n)[0] = true := by simpa using hb
            have hna : noneA m (n + 1) = 0 := by rw [noneA, hbit, hb']; rfl
            have hlen1 : lenL m n = spellL m (cF ((List.range (n + 1)).map (canR m))) n 0 [] := by
              rw [lenL, hbit, hb', if_pos rfl]
              refine spellL_congr m _ _ n 0 [] fun i hi => ?_
              simp [cF, show i < n + 1 from by omega]
            have c1 := w_refwords m hm ((List.range (n + 1)).map (canR m)) hCl hCr bc (((AHeap.empty.upd ba (.cells [.int .i64 m.k, .sl m.next.length (m.next.map natsA), .sl m.good.length (m.good.map .bool)])).upd b (.cells ((O n).map .str))).upd bc (.cells (canC m (n + 1)))) (by intro off; show _ = some ((canC m (n + 1)).drop off); simp) n (by simp) 0 (by omega) [] (by simp; omega) (most - (O n).length) (by omega) (by omega)
            rw [← hlen1] at c1
            generalize (lenL m n).take (most - (O n).length) = R at hsucc hRl c1
            simp [h1, h2, h5, h6, h7, h8, hne, hb1, hb2, hb3, hb4, hbc, hcn0, hwm, hwm0]
            refine (show ACalls _ _ _ _ _ from by simpa [Dfa.av, nrowsA, boolsA, hne, hb1, hb2, hb3, hb4, hbc, hcn0] using c1).use ?_
            cases R with
            | nil =>
              simp only [List.append_nil] at hsucc
              simp [h1, h2, h5, h6, h7, h8, hne, hb1, hb2, hb3, hb4, hbc, hcn0, ownS]
              (refine ⟨by omega, fun b' hb' => ?_⟩;simp [hne, hb1, hb2, hb3, hb4, hbc, hcn0] at hb';simp [h1, h2, h5, h6, h7, h8, hne, hb1, hb2, hb3, hb4, hbc, hcn0, hb'];exact turnA_to _ ((Drop.refl _)).both ⟨n + 1, by omega, by omega, some b', bc, by simp [hne, hb1, hb2, hb3, hb4, hbc, hcn0, hsucc, hb'], by simp [hne, hb1, hb2, hb3, hb4, hbc, hcn0], by (simp [h1, h2, h5, h6, h7, h8, hne, hb1, hb2, hb3, hb4, hbc, hcn0, hw1, hna, hcn1, hsucc, hb', boolsA];refine AHeap.upd_comm ?_;simp [hb'])⟩)
            | cons x R =>
              simp only [List.length_cons] at hRl
              simp [h1, h2, h5, h6, h7, h8, hne, hb1, hb2, hb3, hb4, hbc, hcn0, ownS, strsA]
              refine ⟨by omega, fun b' hb' => ?_⟩
              simp [hne, hb1, hb2, hb3, hb4, hbc, hcn0] at hb'
              simp [h1, h2, h5, h6, h7, h8, hne, hb1, hb2, hb3, hb4, hbc, hcn0, hb']
              exact turnA_to _ ((Drop.refl _)).both ⟨n + 1, by omega, by omega, some b', bc, by simp [hne, hb1, hb2, hb3, hb4, hbc, hcn0, hsucc, hb'], by simp [hne, hb1, hb2, hb3, hb4, hbc, hcn0], by (simp [h1, h2, h5, h6, h7, h8, hne, hb1, hb2, hb3, hb4, hbc, hcn0, hw1, hna, hcn1, hsucc, hb', boolsA];refine AHeap.upd_comm ?_;simp [hb'])⟩
        · have hn0' : 0 < n := by omega
          have hcn0 : cN n = n := by simp [cN, hn0]
          simp [h1, h2, h5, h6, h7, h8, hne, hb1, hb2, hb3, hb4, hbc, hlm, hnoI, hcont, hn0']
          obtain ⟨p, hp⟩ : ∃ p, n = p + 1 := ⟨n - 1, by omega⟩
          have hpn : canR m (p + 1) = canR m n := by rw [hp]
          have hwp : IntKind.i64.wrap ((n : Int) - 1) = p := by rw [wrap_i64 (by omega) (by omega)]; omega
          have hplt : p < n := by omega
          have hlp := canR_len hm.wf p
          refine ⟨by omega, fun b9 hb9 => ?_⟩
          simp [hne, hb1, hb2, hb3, hb4] at hb9
          simp [h1, h2, h5, h6, h7, h8, hne, hb1, hb2, hb3, hb4, hb9, hbc]
          refine awp_loop_t (γ := Nat) (fun s t h => (s ≤ m.next.length) ∧ t 1 = .int .i64 most ∧ t 2 = .ptr ba 0 ∧ t 6 = .int .i64 (noneA m n) ∧ t 7 = .osl bc 0 (cN n) 1 ∧ t 8 = .int .i64 n ∧ t 5 = .osl b 0 (O n).length 1 ∧ t 9 = .osl b9 0 m.next.length 1 ∧ t 10 = .int .i64 s ∧ h = (((AHeap.empty.upd ba (.cells [.int .i64 m.k, .sl m.next.length (m.next.map natsA), .sl m.good.length (m.good.map .bool)])).upd b (.cells ((O n).map .str))).upd bc (.cells (canC m (cN n)))).upd b9 (.cells ((nxF m p s).map .bool))) (fun s => m.next.length - s) (0) (turnA_self (by simp [h1, h2, h5, h6, h7, h8, hne, hb1, hb2, hb3, hb4, nxF])) ?_
          rintro s t h ⟨hs, h1, h2, h6, h7, h8, h5, h9, h10, rfl⟩
          have hnl := nxF_len m p s hs
          by_cases hlt : s < m.next.length
          · have hrow : m.next[s].length = m.k := hm.rl _ (List.getElem_mem hlt)
            have hw : IntKind.i64.wrap ((s : Int) + 1) = (s : Int) + 1 := wrap_i64 (by omega) (by omega)
            have hz : ((nxF m p s).map AV.bool).set s (.bool (bitI m p s 0)) = (nxF m p s).map AV.bool := by rw [bitI_zero, ← List.map_set, nxI_zero m p s hlt]
            simp [h1, h2, h6, h7, h8, h5, h9, h10, hne, hb1, hb2, hb3, hb4, hb9, hbc, hlt]
            refine awp_loop_g (γ := Nat) (fun i t h => (i ≤ m.k) ∧ t 1 = .int .i64 most ∧ t 2 = .ptr ba 0 ∧ t 6 = .int .i64 (noneA m n) ∧ t 7 = .osl bc 0 (cN n) 1 ∧ t 8 = .int .i64 n ∧ t 9 = .osl b9 0 m.next.length 1 ∧ t 5 = .osl b 0 (O n).length 1 ∧ t 10 = .int .i64 s ∧ t 11 = .int .i64 i ∧ h = (((AHeap.empty.upd ba (.cells [.int .i64 m.k, .sl m.next.length (m.next.map natsA), .sl m.good.length (m.good.map .bool)])).upd b (.cells ((O n).map .str))).upd bc (.cells (canC m (cN n)))).upd b9 (.cells (((nxF m p s).map .bool).set s (.bool (bitI m p s i))))) (fun i => m.k - i) (0) (turnA_self (by simp [h1, h2, h6, h7, h8, h5, h9, h10, hne, hb1, hb2, hb3, hb4, hz])) ?_
            rintro i t h ⟨hi, h1, h2, h6, h7, h8, h9, h5, h10, h11, rfl⟩
            by_cases hlti : i < m.k
            · have hjr : i < m.next[s].length := by omega
              have hx : m.next[s][i] < m.next.length := hm.lt _ (List.getElem_mem hlt) _ (List.getElem_mem hjr)
              have hxc : m.next[s][i] < (canR m p).length := by omega
              have hbs := bitI_succ m p s i hlt hjr
              have hgx : (canR m p).getD m.next[s][i] false = (canR m p)[m.next[s][i]] := by simp [hxc]
              rw [hgx] at hbs
              have hwi : IntKind.i64.wrap ((i : Int) + 1) = (i : Int) + 1 := wrap_i64 (by omega) (by omega)
              simp [h1, h2, h6, h7, h8, h9, h5, h10, h11, hne, hb1, hb2, hb3, hb4, hb9, hbc, hlti]
              cases hbi : bitI m p s i with
              | true =>
                rw [hbi, Bool.true_or] at hbs
                refine awp_draw_text (by kernel_rfl) [] [] (by kernel_rfl) (by kernel_rfl) (by simp) ?_
                simp [h1, h2, h6, h7, h8, h9, h5, h10, h11, hne, hb1, hb2, hb3, hb4, hb9, hbc, hlt, hnl, hbi]
                exact ⟨by omega, turnA_self ⟨i + 1, by omega, by omega, by simp [h1, h2, h6, h7, h8, h9, h5, h10, h11, hne, hb1, hb2, hb3, hb4, hwi, hbs, hbi]⟩⟩
              | false =>
                rw [hbi, Bool.false_or] at hbs
                refine awp_draw_text (by kernel_rfl) [] [] (by kernel_rfl) (by kernel_rfl) (by simp) ?_
                simp [h1, h2, h6, h7, h8, h9, h5, h10, h11, hne, hb1, hb2, hb3, hb4, hb9, hbc, hlt, hlti, hnl, hbi, hcn0, hwp, hplt, hjr, hrow, hx, hxc, boolsA, natsA]
                exact ⟨by omega, turnA_self ⟨i + 1, by omega, by omega, by simp [h1, h2, h6, h7, h8, h9, h5, h10, h11, hne, hb1, hb2, hb3, hb4, hwi, hbs, hbi, hcn0]⟩⟩
            · obtain rfl : i = m.k := by omega
              have hend : ((nxF m p s).map AV.bool).set s (.bool (bitI m p s m.k)) = (nxF m p (s + 1)).map AV.bool := by rw [← List.map_set, bitI_end m p s m.k hlt hrow]
              simp [h1, h2, h6, h7, h8, h9, h5, h10, h11, hne, hb1, hb2, hb3, hb4, hb9, hbc]
              exact turnA_self ⟨s + 1, by omega, by omega, by simp [h1, h2, h6, h7, h8, h9, h5, h10, h11, hne, hb1, hb2, hb3, hb4, hw, hend]⟩
          · obtain rfl : s = m.next.length := by omega
            simp [h1, h2, h6, h7, h8, h5, h9, h10, hne, hb1, hb2, hb3, hb4, hb9, hbc]
            refine turnA_row 9 b9 (n := m.next.length) (es := 1) (cs := (nxF m p m.next.length).map .bool) h9 (by simp) (by simp [hnl]) bools_frozen ?_
            have hrowA : AV.sl m.next.length ((nxF m p m.next.length).map .bool) = boolsA (canR m n) := by rw [nxF_end, hpn]; simp [boolsA, hlc]
            rw [hrowA]
            simp [h1, h2, h6, h7, h8, h5, h9, h10, hne, hb1, hb2, hb3, hb4, hb9, hbc]
            intro b10 hb10
            simp [hne, hb1, hb2, hb3, hb4] at hb10
            simp [h1, h2, h6, h7, h8, h5, h9, h10, hne, hb1, hb2, hb3, hb4, hb9, hbc, hb10, hcn0]
            refine ⟨by omega, fun bc' hbc' => ?_⟩
            simp [hne, hb1, hb2, hb3, hb4] at hbc'
            rw [← canC_succ]
            simp [h1, h2, h6, h7, h8, h5, h9, h10, hne, hb1, hb2, hb3, hb4, hb9, hbc, hb10, hbc']
            simp [h1, h2, h6, h7, h8, h5, h9, h10, hne, hb1, hb2, hb3, hb4, hb10, hbc', boolsA, h0c, hnn]
            refine condA_case ?_ ?_
            · intro hb
              have hb' : (canR m n)[0] = false := by simpa using hb
              have hna : noneA m (n + 1) = noneA m n + 1 := by rw [noneA, hbit, hb']; rfl
              have hlen0 : lenL m n = [] := by rw [lenL, hbit, hb']; rfl
              have hs0 : O (n + 1) = O n := by rw [hsucc, hlen0]; simp
              simp [h1, h2, h6, h7, h8, h5, h9, h10, hwn]
              exact turnA_to _ (((Drop.refl _).new (by simp [hne, hb1, hb2, hb3, hb4, hb10])).both) ⟨n + 1, by omega, by omega, (some b), bc', by rw [hs0]; simp [hne, hb1, hb2, hb3, hb4, hb10, hbc'], by simp [hne, hb1, hb2, hb3, hb4, hb10, hbc'], by simp [h1, h2, h6, h7, h8, h5, h9, h10, hne, hb1, hb2, hb3, hb4, hb10, hbc', hw1, hna, hcn1, hs0]⟩
            · intro hb
              have hb' : (canR m n)[0] = true := by simpa using hb
              have hna : noneA m (n + 1) = 0 := by rw [noneA, hbit, hb']; rfl
              have hlen1 : lenL m n = spellL m (cF ((List.range (n + 1)).map (canR m))) n 0 [] := by
                rw [lenL, hbit, hb', if_pos rfl]
                refine spellL_congr m _ _ n 0 [] fun i hi => ?_
                simp [cF, show i < n + 1 from by omega]
              have c1 := w_refwords m hm ((List.range (n + 1)).map (canR m)) hCl hCr bc' ((((AHeap.empty.upd ba (.cells [.int .i64 m.k, .sl m.next.length (m.next.map natsA), .sl m.good.length (m.good.map .bool)])).upd b (.cells ((O n).map .str))).upd b10 (.cells [boolsA (canR m n)])).upd bc' (.cells (canC m (n + 1)))) (by intro off; show _ = some ((canC m (n + 1)).drop off); simp) n (by simp) 0 (by omega) [] (by simp; omega) (most - (O n).length) (by omega) (by omega)
              rw [← hlen1] at c1
              generalize (lenL m n).take (most - (O n).length) = R at hsucc hRl c1
              simp [h1, h2, h6, h7, h8, h5, h9, h10, hne, hb1, hb2, hb3, hb4, hb10, hbc', hwm, hwm0]
              refine (show ACalls _ _ _ _ _ from by simpa [Dfa.av, nrowsA, boolsA, hne, hb1, hb2, hb3, hb4, hb10, hbc'] using c1).use ?_
              cases R with
              | nil =>
                simp only [List.append_nil] at hsucc
                simp [h1, h2, h6, h7, h8, h5, h9, h10, hne, hb1, hb2, hb3, hb4, hb10, hbc', ownS]
                (refine ⟨by omega, fun b' hb' => ?_⟩;simp [hne, hb1, hb2, hb3, hb4, hb10, hbc'] at hb';simp [h1, h2, h6, h7, h8, h5, h9, h10, hne, hb1, hb2, hb3, hb4, hb10, hbc', hb'];exact turnA_to _ ((((Drop.refl _).new (by simp [hne, hb1, hb2, hb3, hb4, hb10])).both)).both ⟨n + 1, by omega, by omega, some b', bc', by simp [hne, hb1, hb2, hb3, hb4, hb10, hbc', hsucc, hb'], by simp [hne, hb1, hb2, hb3, hb4, hb10, hbc'], by (simp [h1, h2, h6, h7, h8, h5, h9, h10, hne, hb1, hb2, hb3, hb4, hb10, hbc', hw1, hna, hcn1, hsucc, hb', boolsA];refine AHeap.upd_comm ?_;simp [hb'])⟩)
              | cons x R =>
                simp only [List.length_cons] at hRl
                simp [h1, h2, h6, h7, h8, h5, h9, h10, hne, hb1, hb2, hb3, hb4, hb10, hbc', ownS, strsA]
                refine ⟨by omega, fun b' hb' => ?_⟩
                simp [hne, hb1, hb2, hb3, hb4, hb10, hbc'] at hb'
                simp [h1, h2, h6, h7, h8, h5, h9, h10, hne, hb1, hb2, hb3, hb4, hb10, hbc', hb']
                exact turnA_to _ ((((Drop.refl _).new (by simp [hne, hb1, hb2, hb3, hb4, hb10])).both)).both ⟨n + 1, by omega, by omega, some b', bc', by simp [hne, hb1, hb2, hb3, hb4, hb10, hbc', hsucc, hb'], by simp [hne, hb1, hb2, hb3, hb4, hb10, hbc'], by (simp [h1, h2, h6, h7, h8, h5, h9, h10, hne, hb1, hb2, hb3, hb4, hb10, hbc', hw1, hna, hcn1, hsucc, hb', boolsA];refine AHeap.upd_comm ?_;simp [hb'])⟩
    · have hE : n = T := by
        rcases Nat.lt_or_ge n T with q | q
        · have := t1 n q; have := hOlt n; omega
        · omega
      subst hE
      rcases o with _ | b
      · have e := ho.1 rfl
        (simp [h1, h2, h5, h6, h7, h8, e, hbc, hcont, hnoI, show 0 < most from by omega];exact finA_self (by simp [ownS]))
      · obtain ⟨hne, hfb, hb1, hb2, hb3, hb4⟩ := ho.2 b rfl
        simp [h1, h2, h5, h6, h7, h8, hbc, hb1, hb2, hb3, hb4, hlm, hcont, hnoI]
        refine finA_all 2 ?_
        simp [hb1, hb2, hb3, hb4, ownS, hne, strsA, List.take_of_length_le]
  · have hE : n = T := by
      rcases Nat.lt_or_ge n T with q | q
      · have := t1 n q; have := hOlt n; omega
      · omega
    subst hE
    rcases o with _ | b
    · have e := ho.1 rfl
      exact (nopos e hlm).elim
    · obtain ⟨hne, hfb, hb1, hb2, hb3, hb4⟩ := ho.2 b rfl
      simp [h1, h2, h5, h6, h7, h8, hbc, hb1, hb2, hb3, hb4, hlm]
      refine finA_all 2 ?_
      simp [hb1, hb2, hb3, hb4, ownS, hne, strsA, List.take_of_length_le]
end Go.Proofs
