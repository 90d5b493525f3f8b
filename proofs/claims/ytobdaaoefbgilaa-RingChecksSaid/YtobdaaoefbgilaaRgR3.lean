/-
  Ring: what is no protocol is refused by all; the law's cut, give, equal.
-/
import Derived.Test.YtobdaaoefbgilaaRgR1
set_option linter.unusedSimpArgs false
set_option linter.unusedVariables false
set_option linter.unusedSectionVars false
namespace Go.Proofs
open Go Go.AH
set_option maxRecDepth 10000
set_option maxHeartbeats 4000000

section
variable {m c : Int} {rows : List (List Int)} (cc : AH.Pure Try.prog 45 [rulV m c rows] (.int .i64 80))
include cc
theorem x_configOf : Pure Try.prog 48 [rulV m c rows, .nilsl] (.tup [.agg [.int .u8 0, .int .u8 0, .int .u8 0, .int .u8 0, .int .u8 0, .int .u8 0], .int .i64 80]) := by
  refine pure_of (acalls_of Try.func48 rfl Try.call48 (by kernel_rfl) (by show _ ≤ (44 : Nat); simp) ?_)
  unfold rulV at cc ⊢
  simp
  intro b2 hb2
  simp
  intro b4 hb4
  simp at hb4
  simp [hb4]
  refine cc.use ?_
  simp [hb4]
  exact finA_drop rfl
theorem x_Number : Pure Try.prog 20 [rulV m c rows, .nilsl] (.tup [.int .i64 0, .int .i64 80]) := by
  refine pure_of (acalls_of Try.func20 rfl Try.call20 (by kernel_rfl) (by show _ ≤ (20 : Nat); simp) ?_)
  have cf := x_configOf cc
  unfold rulV at cf ⊢
  simp
  intro b2 hb2
  simp
  refine cf.use ?_
  simp
  intro b6 hb6
  simp at hb6
  simp [hb6]
  exact finA_drop rfl
theorem x_Ready : Pure Try.prog 21 [rulV m c rows, .nilsl] (.tup [.nilsl, .int .i64 80]) := by
  refine pure_of (acalls_of Try.func21 rfl Try.call21 (by kernel_rfl) (by show _ ≤ (20 : Nat); simp) ?_)
  have cf := x_configOf cc
  unfold rulV at cf ⊢
  simp
  intro b2 hb2
  simp
  refine cf.use ?_
  simp
  intro b6 hb6
  simp at hb6
  simp [hb6]
  exact finA_drop rfl
theorem x_Config : Pure Try.prog 26 [rulV m c rows, .int .i64 (-1)] (.tup [.nilsl, .int .i64 80]) := by
  refine pure_of (acalls_of Try.func26 rfl Try.call26 (by kernel_rfl) (by show _ ≤ (28 : Nat); simp) ?_)
  unfold rulV at cc ⊢
  simp
  intro b2 hb2
  simp
  refine cc.use ?_
  simp
  exact finA_drop rfl
theorem x_Step : Pure Try.prog 22 [rulV m c rows, .nilsl, .nilsl] (.tup [.nilsl, .int .i64 80]) := by
  refine pure_of (acalls_of Try.func22 rfl Try.call22 (by kernel_rfl) (by show _ ≤ (51 : Nat); simp) ?_)
  have cf := x_configOf cc
  unfold rulV at cf ⊢
  simp
  intro b2 hb2
  simp
  refine cf.use ?_
  simp
  intro b6 hb6
  simp at hb6
  simp [hb6]
  exact finA_drop rfl
theorem x_Good : Pure Try.prog 40 [rulV m c rows] (.tup [.nilsl, .int .i64 80]) := by
  refine pure_of (acalls_of Try.func40 rfl Try.call40 (by kernel_rfl) (by show _ ≤ (31 : Nat); simp) ?_)
  unfold rulV at cc ⊢
  simp
  intro b2 hb2
  simp
  refine cc.use ?_
  simp
  exact finA_drop rfl
theorem x_Judge : Pure Try.prog 30 [rulV m c rows, .bool true] (.tup [.agg [.int .i64 0, .int .i64 0, .int .i64 0, .nilsl], .int .i64 80]) := by
  refine pure_of (acalls_of Try.func30 rfl Try.call30 (by kernel_rfl) (by show _ ≤ (23 : Nat); simp) ?_)
  unfold rulV at cc ⊢
  simp
  intro b2 hb2
  simp
  intro b4 hb4
  simp at hb4
  simp [hb4]
  refine cc.use ?_
  simp [hb4]
  exact finA_drop rfl
theorem x_Rank : Pure Try.prog 39 [rulV m c rows] (.tup [.nilsl, .int .i64 80]) := by
  refine pure_of (acalls_of Try.func39 rfl Try.call39 (by kernel_rfl) (by show _ ≤ (22 : Nat); simp) ?_)
  unfold rulV at cc ⊢
  simp
  intro b2 hb2
  simp
  refine cc.use ?_
  simp
  exact finA_drop rfl
theorem x_Play (b : Nat) (H : AHeap) (hb : H b ≠ none) : ACalls Try.prog 14 [rulV m c rows, .nilsl, .osl b 0 1 1] H fun a h => a = .tup [.nilsl, .int .i64 80] ∧ h = H := by
  refine acalls_of Try.func14 rfl Try.call14 (by kernel_rfl) (by show _ ≤ (54 : Nat); simp) ?_
  have cf := x_configOf cc
  unfold rulV at cf ⊢
  simp
  intro b2 hb2
  simp
  refine cf.use ?_
  simp
  intro b6 hb6
  obtain ⟨n1, n2, hb6'⟩ : ¬ b6 = b2 ∧ ¬ b2 = b6 ∧ Fresh H b6 := by simpa using hb6
  simp [n1, n2]
  exact finA_same H (Drop.new (Drop.new (Drop.refl _) hb2) hb6') ⟨rfl, rfl⟩
theorem x_IsRank : Pure Try.prog 33 [rulV m c rows, .nilsl] (.bool false) := by
  refine pure_of (acalls_of Try.func33 rfl Try.call33 (by kernel_rfl) (by show _ ≤ (55 : Nat); simp) ?_)
  unfold rulV at cc ⊢
  simp
  intro b2 hb2
  simp
  intro b3 hb3
  simp at hb3
  simp [hb3]
  intro b4 hb4
  simp at hb4
  simp [hb4, hb3]
  refine awp_draw_text (by kernel_rfl) [9, 18, 23] [(.fn (.func 45) [] [], [.agg [.int .i64 m, .int .i64 c, rowsL rows]], .int .i64 80)] (by kernel_rfl) (by kernel_rfl) (by simp; exact PureV.of cc) ?_
  simp [hb3, hb4, gamGet_here]
  exact finA_drop rfl
theorem x_IsRound (b : Nat) (H : AHeap) (hb : H b ≠ none) : ACalls Try.prog 35 [rulV m c rows, .osl b 0 2 1, .bool false] H fun a h => a = .bool false ∧ h = H := by
  refine acalls_of Try.func35 rfl Try.call35 (by kernel_rfl) (by show _ ≤ (72 : Nat); simp) ?_
  unfold rulV at cc ⊢
  simp
  intro b2 hb2
  simp
  refine cc.use ?_
  simp
  exact finA_same H (Drop.new (Drop.refl _) hb2) ⟨rfl, rfl⟩
end
theorem l_giveG (m c : Int) (rows : List (List Int)) : Pure Try.prog 12 [rulV m c rows] (rulV m c rows) := by
  refine pure_of (acalls_of Try.func12 rfl Try.call12 (by kernel_rfl) (by show _ ≤ (10 : Nat); simp) ?_)
  simp [rulV]
  intro b1 hb1
  simp
  intro b2 hb2
  simp at hb2
  simp [hb2]
  exact finA_drop rfl
/-- What the law makes of any rows. -/
def cutR (next : List (List Int)) : List (List Int) := (next.take 7).map fun r => r.take 217
theorem cutR_len (next : List (List Int)) : (cutR next).length ≤ 7 := by simp [cutR]; omega
theorem cutR_row (next : List (List Int)) : ∀ row ∈ cutR next, row.length ≤ 217 := by
  intro row hr
  obtain ⟨r, _, rfl⟩ := List.mem_map.1 hr
  simp; omega
theorem l_cut (m c : Int) (next : List (List Int)) (hn : next.length ≤ 20000000000000) (hrl : ∀ row ∈ next, row.length ≤ 20000000000000) : Pure Try.prog 43 [.agg [.int .i64 m, .int .i64 c, rowsA next]] (rulV m c (cutR next)) := by
  refine pure_of (acalls_of Try.func43 rfl Try.call43 (by kernel_rfl) (by show _ ≤ (35 : Nat); simp) ?_)
  obtain ⟨N, hN⟩ : ∃ N, N = min next.length 7 := ⟨_, rfl⟩
  obtain ⟨R, hR⟩ : ∃ R, R = cutR next := ⟨_, rfl⟩
  have hRl : R.length = N := by rw [hR, hN]; simp [cutR]; omega
  rw [← hR]
  simp [rowsA]
  intro b1 hb1
  simp
  intro b2 hb2
  simp at hb2
  simp [hb2]
  intro b3 hb3
  simp at hb3
  simp [hb2, hb3, splice]
  refine awp_loop_g (γ := At) (fun q t h => (q.i ≤ N) ∧ ((q.o = none ↔ q.i = 0) ∧ ¬ q.o = some b1 ∧ ¬ q.o = some b2 ∧ ¬ q.o = some b3) ∧ t 1 = .ptr b1 0 ∧ t 2 = .ptr b2 0 ∧ t 3 = .ptr b3 0 ∧ t 4 = .int .i64 q.i ∧ h = (((AHeap.empty.upd b1 (.cells [.int .i64 m, .int .i64 c, .sl next.length (next.map intsA)])).upd b2 (.cells [.int .i64 0, .int .i64 0, .nilsl])).upd b3 (.cells [.int .i64 m, .int .i64 c, ownV q.o q.i 1])).updO q.o ((R.take q.i).map listI)) (fun q => N - q.i) (⟨0, none⟩) (turnA_self (by simp [hb2, hb3])) ?_
  rintro q t hx ⟨hi, ho, h1, h2, h3, h4, ex⟩
  rw [ex]
  clear ex
  obtain ⟨i, o⟩ := q
  simp only at h1 h2 h3 h4 hi ho
  obtain ⟨ho1, ho2, ho3, ho4⟩ := ho
  by_cases hlt : i < N
  · have hwi : IntKind.i64.wrap ((i : Int) + 1) = (i : Int) + 1 := wrap_i64 (by omega) (by omega)
    have hin : i < next.length := by omega
    have hinI : (i : Int) < (next.length : Int) := by omega
    have hi7 : i < 7 := by omega
    have hi7I : (i : Int) < 7 := by omega
    have hiR : i < R.length := by omega
    have hts : (R.take (i + 1)).map listI = (R.take i).map listI ++ [listI (next[i].take 217)] := by
      rw [List.take_succ_eq_append_getElem hiR, List.map_append]
      congr 2
      simp [hR, cutR]
    have cr := l_rawP next[i] 217 (hrl _ (List.getElem_mem hin)) (by omega)
    obtain ⟨V, hV⟩ : ∃ V, V = listI (next[i].take 217) := ⟨_, rfl⟩
    have hV1 : V.one = true := by rw [hV]; simp
    have hV2 : V.fit = true := by rw [hV]; simp
    have hV3 : V.cells = [V] := by rw [hV]; simp
    rw [← hV] at hts cr
    simp [h1, h2, h3, h4, hin, hinI, hi7, hi7I, hb2, hb3, ho2, ho3, ho4]
    refine cr.use ?_
    simp [h1, h2, h3, h4, hV1, hV2, hV3]
    intro b9 hb9
    simp [ho2, ho3, ho4] at hb9
    simp [h1, h2, h3, h4, hb9, hb2, hb3, ho2, ho3, ho4]
    rw [← List.map_take]
    refine appendA_updO (by omega) (by omega) (fun e => by rw [ho1.1 e]; rfl) (by simp; omega) (by simp) (by cases o with | none => simp | some b => simp at hb9 ho2 ho3 ho4 ⊢; simp [ho2, ho3, ho4, hb9]; exact ⟨fun e => hb9.1 e.symm, fun e => ho4 e.symm, fun e => ho3 e.symm, fun e => ho2 e.symm⟩) fun b' hb' => ?_
    simp [hb9, hb2, hb3, ho2, ho3, ho4] at hb'
    simp [h1, h2, h3, h4, hb', hb9, hb2, hb3]
    rw [← List.map_take, ← hts]
    refine turnA_to ((((AHeap.empty.upd b1 (.cells [.int .i64 m, .int .i64 c, .sl next.length (next.map intsA)])).upd b2 (.cells [.int .i64 0, .int .i64 0, .nilsl])).upd b3 (.cells [.int .i64 m, .int .i64 c, ownV (some b') (i + 1) 1])).updO (some b') ((R.take (i + 1)).map listI)) ?_ ⟨⟨i + 1, some b'⟩, by simp only; omega, by simp only; omega, by simp [hb'], by simp [h1, h2, h3, h4, hwi]⟩
    simp
    exact Drop.both (Drop.new (Drop.refl _) (by simp [hb9]))
  · have hiN : i = N := by omega
    have hRt : R.take i = R := List.take_of_length_le (by omega)
    have fin : finA (fun r' _ => r' = rulV m c R) (.agg [.int .i64 m, .int .i64 c, ownV o i 1]) ((((AHeap.empty.upd b1 (.cells [.int .i64 m, .int .i64 c, .sl next.length (next.map intsA)])).upd b2 (.cells [.int .i64 m, .int .i64 c, ownV o i 1])).upd b3 (.cells [.int .i64 m, .int .i64 c, ownV o i 1])).updO o (R.map listI)) := by
      cases o with
      | none =>
        have hi0 := ho1.1 rfl
        have hRe : R = [] := List.eq_nil_of_length_eq_zero (by omega)
        refine finA_drop ?_
        rw [hRe, hi0]
        rfl
      | some b =>
        have hRne : ¬ R = [] := fun e => by
          have := ho1.2
          rw [e] at hRl
          simp at hRl
          have := this (by omega)
          cases this
        refine finA_all 3 ?_
        rw [frz_agg]
        simp only [List.map_cons, List.map_nil, ownV_some, updO_some]
        rw [frz_osl (by simp)]
        simp only [AHeap.upd_same, cellsAt]
        simp [rulV, rowsL, hRne, Function.comp_def, hiN, hRl]
        exact List.take_of_length_le (by simp; omega)
    by_cases h7 : i < next.length
    · have h7I : (i : Int) < (next.length : Int) := by omega
      have h8 : ¬ i < 7 := by omega
      have h8I : ¬ (i : Int) < 7 := by omega
      simp [h1, h2, h3, h4, h7, h7I, h8, h8I, hb2, hb3, ho2, ho3, ho4]
      rw [← List.map_take, hRt]
      exact fin
    · have h7I : ¬ (i : Int) < (next.length : Int) := by omega
      simp [h1, h2, h3, h4, h7, h7I, hb2, hb3, ho2, ho3, ho4]
      rw [← List.map_take, hRt]
      exact fin
end Go.Proofs
