/-
  Walks: the reference's words.
-/
import Derived.Test.YtobhipohnjmnhaaWdV2
import Derived.Test.YtobhipohnjmnhaaWdR1
set_option linter.unusedSimpArgs false
set_option linter.unusedVariables false
set_option linter.unusedSectionVars false
namespace Go.Proofs
open Go Go.AH
set_option maxRecDepth 10000
set_option maxHeartbeats 4000000

theorem w_refletter (i : Nat) (hi : i < 4) : Pure Try.prog 73 [.int .i64 i] (.str [ltr i]) := by
  refine pure_of (acalls_of Try.func73 rfl Try.call73 (by kernel_rfl) (by show _ ≤ (8 : Nat); simp) ?_)
  simp
  have h1 : IntKind.i64.wrap (97 + (i : Int)) = 97 + i := wrap_i64 (by omega) (by omega)
  have h2 : IntKind.u8.wrap (97 + (i : Int)) = 97 + i := wrap_u8 (by omega) (by omega)
  rw [h1, h2]
  intro b hb
  have h3 : cellsOfSlice (AHeap.empty.upd b (.cells [.int .u8 (97 + (i : Int))])) (.osl b 0 1 1) = some [.int .u8 (97 + (i : Int))] := by simp [cellsOfSlice]
  have h4 : bytesOf [.int .u8 (97 + (i : Int))] = some [ltr i] := by
    have : i = 0 ∨ i = 1 ∨ i = 2 ∨ i = 3 := by omega
    rcases this with rfl | rfl | rfl | rfl <;> rfl
  simp [h3, h4]
  exact finA_self rfl

theorem w_refwords (m : Dfa) (hm : m.ok) (can : List (List Bool)) (hcl : can.length ≤ 100000000) (hcr : ∀ r ∈ can, r.length = m.next.length) (bc : Nat) (H : AHeap) (hcan : ∀ off, cellsAt H bc off = some ((can.map boolsA).drop off)) :
    ∀ (n : Nat), n ≤ can.length → ∀ (s : Nat), s < m.next.length → ∀ (r : List UInt8), r.length + n < 1000000000 → ∀ (most : Nat), 1 ≤ most → most ≤ 1000 →
      ACalls Try.prog 69 [m.av, .osl bc 0 can.length 1, .int .i64 n, .int .i64 s, .str r, .int .i64 most] H fun q h' => q = ownS ((spellL m (cF can) n s r).take most) ∧ h' = H := by
  intro n
  induction n with
  | zero =>
    intro _ s hs r hr most h1 h2
    refine acalls_of Try.func69 rfl Try.call69 (by kernel_rfl) (by show _ ≤ (65 : Nat); simp) ?_
    simp [Dfa.av]
    intro b6 hb6
    simp
    intro b7 hb7
    simp at hb7
    simp
    refine finA_to 2 H (((Drop.refl _).new hb6).new hb7.2.2) ?_
    have e : (spellL m (cF can) 0 s r).take most = [r] := by
      obtain ⟨k, rfl⟩ : ∃ k, most = k + 1 := ⟨most - 1, by omega⟩
      simp [spellL]
    rw [e]
    refine ⟨?_, rfl⟩
    simp [hb7, ownS, strsA]
  | succ n ih =>
    intro hn s hs r hr most h1 h2
    refine acalls_of Try.func69 rfl Try.call69 (by kernel_rfl) (by show _ ≤ (65 : Nat); simp) ?_
    have hrow : m.next[s].length = m.k := hm.rl _ (List.getElem_mem hs)
    have hk4 := hm.k4
    have hwn : IntKind.i64.wrap (n : Int) = n := wrap_i64 (by omega) (by omega)
    have hn0 : ¬ (n : Int) + 1 = 0 := by omega
    simp [Dfa.av]
    intro b6 hb6
    simp [hn0, nrowsA]
    obtain ⟨ch, hch⟩ : ∃ ch : Nat → List (List UInt8), ch = fun i => if (cF can n).getD ((m.next.getD s []).getD i 0) false then spellL m (cF can) n ((m.next.getD s []).getD i 0) (r ++ [ltr i]) else [] := ⟨_, rfl⟩
    have hL : spellL m (cF can) (n + 1) s r = (List.range m.k).flatMap ch := by rw [hch]; rfl
    rw [hL]
    have hbc := ne_fresh (hcan 0) hb6
    obtain ⟨O, hO⟩ : ∃ O : Nat → List (List UInt8), O = fun i => ((List.range i).flatMap ch).take most := ⟨_, rfl⟩
    have hO0 : O 0 = [] := by rw [hO]; simp
    have hOl : ∀ i, (O i).length ≤ most := by intro i; rw [hO]; simp only [List.length_take]; omega
    have hOk : ((List.range m.k).flatMap ch).take most = O m.k := by rw [hO]
    have hOs : ∀ i, (O i).length < most → O (i + 1) = O i ++ (ch i).take (most - (O i).length) := by
      intro i h
      have h1 : O i = (List.range i).flatMap ch := by
        rw [hO] at h ⊢
        simp only [List.length_take] at h ⊢
        rw [List.take_of_length_le (by omega)]
      have h2 : O (i + 1) = ((List.range i).flatMap ch ++ ch i).take most := by rw [hO]; simp only [List.range_succ, List.flatMap_append, List.flatMap_singleton]
      rw [h2, ← h1, List.take_append, List.take_of_length_le (hOl i)]
    have hOend : ∀ i, i ≤ m.k → ¬ (O i).length < most → O m.k = O i := by
      intro i hi h
      have h1 : List.range m.k = List.range i ++ (List.range m.k).drop i := by
        conv => lhs; rw [← List.take_append_drop i (List.range m.k)]
        rw [List.take_range, Nat.min_eq_left hi]
      rw [hO] at h ⊢
      simp only [List.length_take] at h ⊢
      rw [h1, List.flatMap_append, List.take_append_of_le_length (by omega)]
    rw [hOk]
    clear hL hOk
    refine awp_loop_g (γ := Nat × Option Nat) (fun g t h => (g.1 ≤ m.k) ∧ ((g.2 = none → O g.1 = []) ∧ ∀ b, g.2 = some b → ¬ O g.1 = [] ∧ Fresh H b ∧ ¬ b = b6 ∧ ¬ b6 = b) ∧ t 1 = .osl bc 0 can.length 1 ∧ t 2 = .int .i64 ((n : Int) + 1) ∧ t 3 = .int .i64 s ∧ t 4 = .str r ∧ t 5 = .int .i64 most ∧ t 6 = .ptr b6 0 ∧ t 13 = ownV g.2 (O g.1).length 1 ∧ t 14 = .int .i64 g.1 ∧ h = (H.upd b6 (.cells [.int .i64 m.k, .sl m.next.length (m.next.map natsA), .sl m.good.length (m.good.map .bool)])).updO g.2 ((O g.1).map .str)) (fun g => m.k - g.1) ((0, none)) (turnA_self (by simp [boolsA, hO0])) ?_
    rintro g t h ⟨hi, ho, h1, h2, h3, h4, h5, h6, h13, h14, rfl⟩
    obtain ⟨i, o⟩ := g
    simp only at h1 h2 h3 h4 h5 h6 h13 h14 hi ho
    have hLl := hOl i
    have hsucc := hOs i
    have hpos : 0 < most := by omega
    have nopos : O i = [] → ¬ (O i).length < most → False := fun e q => by rw [e] at q; simp at q; omega
    by_cases hlt : i < m.k
    · by_cases hlm : (O i).length < most
      · have hsucc := hOs i hlm
        have hjr : i < m.next[s].length := by omega
        have hx : m.next[s][i] < m.next.length := hm.lt _ (List.getElem_mem hs) _ (List.getElem_mem hjr)
        have hnc : n < can.length := by omega
        have hcrow : can[n].length = m.next.length := hcr _ (List.getElem_mem hnc)
        have hxc : m.next[s][i] < can[n].length := by omega
        have hbit : (cF can n).getD ((m.next.getD s []).getD i 0) false = can[n][m.next[s][i]] := by simp [cF, hs, hjr, hnc, hxc]
        have hnext : (m.next.getD s []).getD i 0 = m.next[s][i] := by simp [hs, hjr]
        have hchi : ch i = if can[n][m.next[s][i]] then spellL m (cF can) n m.next[s][i] (r ++ [ltr i]) else [] := by rw [hch]; simp only; rw [hbit, hnext]
        have hw : IntKind.i64.wrap ((i : Int) + 1) = (i : Int) + 1 := wrap_i64 (by omega) (by omega)
        have hlen1 : r.length + 1 < 4611686018427387904 := by omega
        rcases o with _ | b
        · have e := ho.1 rfl
          have hle : HLe H (H.upd b6 (.cells [.int .i64 m.k, .sl m.next.length (m.next.map natsA), .sl m.good.length (m.good.map .bool)])) := (HLe.refl H).new hb6
          have hwm : IntKind.i64.wrap (most : Int) = ((most - 0 : Nat) : Int) := by rw [wrap_i64 (by omega) (by omega)]; rfl
          rw [e] at hsucc
          simp only [List.length_nil, List.nil_append] at hsucc
          simp [h1, h2, h3, h4, h5, h6, h13, h14, hlt, hpos, hbc, e, hs, hjr, natsA, hrow, hwn, hcan, hnc, boolsA, hxc]
          refine condA_case ?_ ?_
          · intro hb
            rw [hb] at hchi
            simp only [if_true] at hchi
            have c1 := (ih (by omega) m.next[s][i] hx (r ++ [ltr i]) (by simp; omega) (most - 0) (by omega) (by omega)).le hle
            rw [← hchi] at c1
            simp [h1, h2, h3, h4, h5, h6, h13, h14]
            refine awp_draw_text (by kernel_rfl) [56] [(.fn (.func 73) [] [], [.int .i64 (i : Int)], .str [ltr i])] (by kernel_rfl) (by kernel_rfl) (by simp; exact PureV.of (w_refletter i (by omega))) ?_
            simp [h1, h2, h3, h4, h5, h6, h13, h14, hpos, hbc, e, hlen1, hwn, hwm]
            refine (show ACalls _ _ _ _ _ from by simpa [Dfa.av, nrowsA, boolsA] using c1).use ?_
            have hRl : ((ch i).take (most - 0)).length ≤ most - 0 := by rw [List.length_take]; omega
            generalize (ch i).take (most - 0) = R at hsucc hRl
            cases R with
            | nil =>
              try simp only [List.append_nil] at hsucc
              simp [h1, h2, h3, h4, h5, h6, h13, h14, hpos, hbc, e, ownS]
              exact turnA_self ⟨i + 1, by omega, by omega, none, by simp [hsucc], by simp [h1, h2, h3, h4, h5, h6, h13, h14, hw, boolsA, hsucc]⟩
            | cons x R =>
              simp only [List.length_cons] at hRl
              simp [h1, h2, h3, h4, h5, h6, h13, h14, hpos, hbc, e, ownS, strsA]
              refine ⟨by omega, ?_⟩
              intro b' hb'
              simp [hpos, hbc, e] at hb'
              simp [h1, h2, h3, h4, h5, h6, h13, h14, hpos, hbc, e, hb']
              exact turnA_self ⟨i + 1, by omega, by omega, some b', by simp [hsucc, hb'], by simp [h1, h2, h3, h4, h5, h6, h13, h14, hw, boolsA, hpos, hbc, e, hsucc, hb']⟩
          · intro hb
            rw [hb] at hchi
            simp only [Bool.false_eq_true, if_false] at hchi
            simp only [hchi, List.take_nil, List.append_nil] at hsucc
            simp [h1, h2, h3, h4, h5, h6, h13, h14]
            exact turnA_self ⟨i + 1, by omega, by omega, none, by rw [hsucc]; exact by simp, by simp [h1, h2, h3, h4, h5, h6, h13, h14, hw, boolsA, hpos, hbc, e, hsucc]⟩
        · obtain ⟨hne, hfb, hb1, hb2⟩ := ho.2 b rfl
          have hbc2 := ne_fresh (hcan 0) hfb
          have hle : HLe H ((H.upd b6 (.cells [.int .i64 m.k, .sl m.next.length (m.next.map natsA), .sl m.good.length (m.good.map .bool)])).upd b (.cells ((O i).map .str))) := ((HLe.refl H).new hb6).new hfb
          have hwm : IntKind.i64.wrap ((most : Int) - (O i).length) = ((most - (O i).length : Nat) : Int) := by rw [wrap_i64 (by omega) (by omega)]; omega
          simp [h1, h2, h3, h4, h5, h6, h13, h14, hlt, hb1, hb2, hbc, hbc2, hlm, hfb, hs, hjr, natsA, hrow, hwn, hcan, hnc, boolsA, hxc]
          refine condA_case ?_ ?_
          · intro hb
            rw [hb] at hchi
            simp only [if_true] at hchi
            have c1 := (ih (by omega) m.next[s][i] hx (r ++ [ltr i]) (by simp; omega) (most - (O i).length) (by omega) (by omega)).le hle
            rw [← hchi] at c1
            simp [h1, h2, h3, h4, h5, h6, h13, h14]
            refine awp_draw_text (by kernel_rfl) [56] [(.fn (.func 73) [] [], [.int .i64 (i : Int)], .str [ltr i])] (by kernel_rfl) (by kernel_rfl) (by simp; exact PureV.of (w_refletter i (by omega))) ?_
            simp [h1, h2, h3, h4, h5, h6, h13, h14, hb1, hb2, hbc, hbc2, hlm, hfb, hlen1, hwn, hwm]
            refine (show ACalls _ _ _ _ _ from by simpa [Dfa.av, nrowsA, boolsA] using c1).use ?_
            have hRl : ((ch i).take (most - (O i).length)).length ≤ most - (O i).length := by rw [List.length_take]; omega
            generalize (ch i).take (most - (O i).length) = R at hsucc hRl
            cases R with
            | nil =>
              try simp only [List.append_nil] at hsucc
              simp [h1, h2, h3, h4, h5, h6, h13, h14, hb1, hb2, hbc, hbc2, hlm, hfb, ownS]
              (refine ⟨by omega, fun b' hb' => ?_⟩;simp [hfb] at hb';simp [h1, h2, h3, h4, h5, h6, h13, h14, hfb, hb'];exact turnA_self ⟨i + 1, by omega, by omega, some b', by simp [hsucc, hb', hne], by simp [h1, h2, h3, h4, h5, h6, h13, h14, hw, boolsA, hsucc, hb']⟩)
            | cons x R =>
              simp only [List.length_cons] at hRl
              simp [h1, h2, h3, h4, h5, h6, h13, h14, hb1, hb2, hbc, hbc2, hlm, hfb, ownS, strsA]
              refine ⟨by omega, ?_⟩
              intro b' hb'
              simp [hb1, hb2, hbc, hbc2, hlm, hfb] at hb'
              simp [h1, h2, h3, h4, h5, h6, h13, h14, hb1, hb2, hbc, hbc2, hlm, hfb, hb']
              exact turnA_self ⟨i + 1, by omega, by omega, some b', by simp [hsucc, hb'], by simp [h1, h2, h3, h4, h5, h6, h13, h14, hw, boolsA, hb1, hb2, hbc, hbc2, hlm, hfb, hsucc, hb']⟩
          · intro hb
            rw [hb] at hchi
            simp only [Bool.false_eq_true, if_false] at hchi
            simp only [hchi, List.take_nil, List.append_nil] at hsucc
            simp [h1, h2, h3, h4, h5, h6, h13, h14]
            exact turnA_self ⟨i + 1, by omega, by omega, some b, by rw [hsucc]; exact ho, by simp [h1, h2, h3, h4, h5, h6, h13, h14, hw, boolsA, hb1, hb2, hbc, hbc2, hlm, hfb, hsucc]⟩
      · have hE := hOend i hi hlm
        cases o with
        | none =>
          have e := ho.1 rfl
          exact (nopos e hlm).elim
        | some b =>
          obtain ⟨hne, hfb, hb1, hb2⟩ := ho.2 b rfl
          simp [h1, h2, h3, h4, h5, h6, h13, h14, hb1, hb2, hlt, hlm]
          refine finA_to 2 H (((Drop.refl _).new hb6).new hfb) ?_
          rw [hE]
          refine ⟨?_, rfl⟩
          simp [hfb, hb1, hb2, ownS, hne, strsA, List.take_of_length_le]
    · obtain rfl : i = m.k := by omega
      have hk : ¬ m.k < m.k := by omega
      have hE : O m.k = O m.k := rfl
      cases o with
      | none =>
        have e := ho.1 rfl
        (simp [h1, h2, h3, h4, h5, h6, h13, h14, e, hk];exact finA_same H ((Drop.refl _).new hb6) ⟨by simp [ownS], rfl⟩)
      | some b =>
        obtain ⟨hne, hfb, hb1, hb2⟩ := ho.2 b rfl
        simp [h1, h2, h3, h4, h5, h6, h13, h14, hb1, hb2, hk]
        refine finA_to 2 H (((Drop.refl _).new hb6).new hfb) ?_
        rw [hE]
        refine ⟨?_, rfl⟩
        simp [hfb, hb1, hb2, ownS, hne, strsA, List.take_of_length_le]
end Go.Proofs
