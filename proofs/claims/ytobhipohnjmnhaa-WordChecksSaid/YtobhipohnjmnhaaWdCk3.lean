/-
  The law's copy of any automaton.
-/
import Derived.Test.YtobhipohnjmnhaaWdCk1
import Derived.Test.YtobhipohnjmnhaaAhOwn
set_option linter.unusedSimpArgs false
set_option linter.unusedVariables false
set_option linter.unusedSectionVars false
namespace Go.Proofs
open Go Go.AH
set_option maxRecDepth 10000
set_option maxHeartbeats 4000000

def rawR (a : RAuto) : List (List Int) := (a.next.take 65).map fun r => r.take 6
def rawG (a : RAuto) : List Bool := a.good.take 65
theorem rawR_len (a : RAuto) : (rawR a).length ≤ 65 := by simp [rawR]; omega
theorem rawR_row (a : RAuto) : ∀ row ∈ rawR a, row.length ≤ 6 := by
  intro row hr
  obtain ⟨r, _, rfl⟩ := List.mem_map.1 hr
  simp; omega
theorem rawG_len (a : RAuto) : (rawG a).length ≤ 65 := by simp [rawG]; omega
/-- A valid one is a machine. -/
theorem chkV_ok {k : Int} {rows : List (List Int)} {good : List Bool} (h : chkV k rows good = 0) : ∃ m : Dfa, m.ok ∧ (m.k : Int) = k ∧ autoV k rows good = m.av := by
  unfold chkV at h
  split at h
  · cases h
  · next hk =>
    split at h
    · cases h
    · next hn =>
      split at h
      · next ha =>
        obtain ⟨k, rfl⟩ : ∃ a : Nat, k = a := ⟨k.toNat, by omega⟩
        rw [List.all_eq_true] at ha
        have hn1 : 1 ≤ rows.length := Nat.le_of_not_lt fun q => hn (.inl q)
        have hn2 : rows.length ≤ 64 := Nat.le_of_not_lt fun q => hn (.inr (.inl q))
        have hn3 : good.length = rows.length := Classical.byContradiction fun q => hn (.inr (.inr q))
        have hrow : ∀ row ∈ rows, row.length = k ∧ ∀ x ∈ row, 0 ≤ x ∧ x < rows.length := by
          intro row hr
          have := ha row hr
          unfold rowB at this
          simp only [Bool.and_eq_true, decide_eq_true_eq, Bool.not_eq_true', Int.toNat_natCast, List.any_eq_false] at this
          refine ⟨this.1, fun x hx => ?_⟩
          have := this.2 x hx
          unfold badN at this
          simp at this
          omega
        have hrn : ∀ row ∈ rows, natsA (row.map Int.toNat) = listI row := by
          intro row hr
          obtain ⟨h1, h2⟩ := hrow row hr
          have hne : ¬ row = [] := fun e => by rw [e] at h1; simp at h1; omega
          rw [listI_ne hne, natsA_ints]
          congr 1
          rw [List.map_map]
          refine (List.map_congr_left fun x hx => ?_).trans (List.map_id _)
          have := h2 x hx
          simp only [Function.comp, id]
          omega
        refine ⟨⟨k, rows.map fun r => r.map Int.toNat, good⟩, ⟨by show 1 ≤ k; omega, by show k ≤ 4; omega, by show 1 ≤ (rows.map _).length; rw [List.length_map]; omega, by show (rows.map _).length ≤ 64; rw [List.length_map]; omega, by show good.length = (rows.map _).length; rw [List.length_map]; omega, ?_, ?_⟩, rfl, ?_⟩
        · intro r hr
          obtain ⟨row, h1, rfl⟩ := List.mem_map.1 hr
          simp [(hrow row h1).1]
        · intro r hr x hx
          obtain ⟨row, h1, rfl⟩ := List.mem_map.1 hr
          obtain ⟨y, hy, rfl⟩ := List.mem_map.1 hx
          have := (hrow row h1).2 y hy
          simp; omega
        · have hg : ¬ good = [] := fun e => by rw [e] at hn; simp at hn; omega
          have hr0 : ¬ rows = [] := fun e => by rw [e] at hn; simp at hn
          unfold autoV Dfa.av rowsL listB nrowsA
          rw [if_neg hr0, if_neg hg]
          simp only [List.length_map, List.map_map]
          congr 4
          exact List.map_congr_left fun row hr => (hrn row hr).symm
      · cases h
theorem turnA_cell {K : AF → AHeap → Prop} {t : AF} {HV h0 : AHeap} {o rb m : Nat} {prev cs : List AV} (hO : cellsAt HV o 0 = some (prev ++ [.osl rb 0 m 1])) (hR : cellsAt HV rb 0 = some cs) (hl : cs.length = m) (hp : ∀ x ∈ prev, x.frozen = true) (ho : ¬ rb = o)
    (h1 : h0 rb = none) (h2 : ∀ b, b ≠ o → h0 b = none ∨ h0 b = HV b) (q : K t (h0.upd o (.cells (prev ++ [.sl m cs])))) : turnA K t HV := by
  have hO2 : HV o = some (.cells (prev ++ [.osl rb 0 m 1])) := by
    unfold cellsAt at hO
    split at hO
    · next e => rw [e]; simpa using hO
    · cases hO
  have hf : (h0.upd o (.cells (prev ++ [.sl m cs]))) rb = none := by rw [AHeap.upd_ne ho]; exact h1
  refine ⟨1, h0.upd o (.cells (prev ++ [.sl m cs])), t, fun b => ?_, fun i => .inl rfl, q⟩
  by_cases hb : b = o
  · subst hb
    refine .inr (.inr ⟨_, hO2, ?_⟩)
    rw [AHeap.upd_same, List.map_append]
    congr 2
    congr 1
    · refine ((List.map_congr_left fun x hx => ?_).trans (List.map_id _)).symm
      exact frz_frozen 1 _ (hp x hx)
    · simp only [List.map_cons, List.map_nil]
      rw [frz_osl hf, hR]
      simp only [Nat.mul_one, List.drop_zero, Nat.zero_add]
      rw [if_pos (by omega), List.take_of_length_le (by omega)]
      congr 2
      exact ((List.map_congr_left fun _ _ => rfl).trans (List.map_id _)).symm
  · rw [AHeap.upd_ne hb]
    rcases h2 b hb with q | q
    · exact .inl q
    · exact .inr (.inl q)
theorem l_raw (a : RAuto) (hs : a.sized) : Pure Try.prog 63 [a.av] (autoV a.letters (rawR a) (rawG a)) := by
  refine pure_of (acalls_of Try.func63 rfl Try.call63 (by kernel_rfl) (by show _ ≤ (54 : Nat); simp) ?_)
  obtain ⟨N, hN⟩ : ∃ N, N = min a.next.length 65 := ⟨_, rfl⟩
  obtain ⟨R, hR⟩ : ∃ R, R = rawR a := ⟨_, rfl⟩
  obtain ⟨G, hG⟩ : ∃ G, G = rawG a := ⟨_, rfl⟩
  have hRl : R.length = N := by rw [hR, hN]; simp [rawR]; omega
  rw [← hR, ← hG]
  obtain ⟨z1, z2, z3⟩ := hs
  obtain ⟨l, next, good⟩ := a
  simp only [RAuto.av, rowsA, boolsA] at z1 z2 z3 hN ⊢
  simp
  intro b1 hb1
  simp
  intro b2 hb2
  simp at hb2
  simp [hb2]
  intro b3 hb3
  simp at hb3
  simp [hb2, hb3, splice]
  refine awp_loop_g (γ := At) (fun q t h => (q.i ≤ N) ∧ ((q.o = none ↔ q.i = 0) ∧ ¬ q.o = some b1 ∧ ¬ q.o = some b2 ∧ ¬ q.o = some b3) ∧ t 1 = .ptr b1 0 ∧ t 2 = .ptr b2 0 ∧ t 3 = .ptr b3 0 ∧ t 4 = .int .i64 q.i ∧ h = (((AHeap.empty.upd b1 (.cells [.int .i64 l, .sl next.length (next.map intsA), .sl good.length (good.map .bool)])).upd b2 (.cells [.int .i64 0, .nilsl, .nilsl])).upd b3 (.cells [.int .i64 l, ownV q.o q.i 1, .nilsl])).updO q.o ((R.take q.i).map listI)) (fun q => N - q.i) (⟨0, none⟩) (turnA_self (by simp [hb2, hb3])) ?_
  rintro q t hx ⟨hi, ho, h1, h2, h3, h4, ex⟩
  rw [ex]
  clear ex
  obtain ⟨i, o⟩ := q
  simp only at h1 h2 h3 h4 hi ho
  obtain ⟨ho1, ho2, ho3, ho4⟩ := ho
  by_cases hlt : i < N
  · have hwi : IntKind.i64.wrap ((i : Int) + 1) = (i : Int) + 1 := wrap_i64 (by omega) (by omega)
    have hin : i < next.length := by omega
    have hinI : (i : Int) < (next.length : Int) := by omega
    have hi64 : i ≤ 64 := by omega
    have hi64I : (i : Int) ≤ 64 := by omega
    have hiR : i < R.length := by omega
    obtain ⟨row, hrow⟩ : ∃ row, row = next[i] := ⟨_, rfl⟩
    have hrow' : next[i]'hin = row := hrow.symm
    have hts : (R.take (i + 1)).map listI = (R.take i).map listI ++ [listI (row.take 6)] := by
      rw [List.take_succ_eq_append_getElem hiR, List.map_append]
      congr 2
      simp [hR, rawR, hrow]
    simp [h1, h2, h3, h4, hin, hinI, hi64, hi64I, hb2, hb3, ho2, ho3, ho4]
    refine awp_draw_text (by kernel_rfl) [] [] (by kernel_rfl) (by kernel_rfl) (by simp) ?_
    have hrl : row.length ≤ 4611686018427387904 := by rw [hrow]; exact z2 _ (List.getElem_mem hin)
    obtain ⟨M, hM⟩ : ∃ M, M = min row.length 6 := ⟨_, rfl⟩
    have hMI : (if 6 < (row.length : Int) then (6 : Int) else (row.length : Int)) = (M : Int) := by split <;> omega
    have hMl : M ≤ row.length := by omega
    have hMlI : (M : Int) ≤ (row.length : Int) := by omega
    have hM6 : M ≤ 6 := by omega
    have htk : row.take 6 = row.take M := by
      rw [hM]
      by_cases h : row.length ≤ 6
      · rw [List.take_of_length_le h, Nat.min_eq_left h, List.take_length]
      · rw [Nat.min_eq_right (by omega)]
    have hfr : ∀ x ∈ (R.take i).map listI, x.frozen = true := by
      intro x hx; obtain ⟨r, _, rfl⟩ := List.mem_map.1 hx; simp
    by_cases hM0 : M = 0
    · have hli : listI (row.take 6) = .nilsl := by rw [htk, hM0]; rfl
      rw [hli] at hts
      simp [h1, h2, h3, h4, hin, hinI, hb2, hb3, ho2, ho3, ho4, hrow', intsA, hMI, hMlI, hMl, hM0]
      intro b9 hb9
      simp [ho2, ho3, ho4] at hb9
      simp [h1, h2, h3, h4, hb9, hb2, hb3, ho2, ho3, ho4]
      rw [← List.map_take]
      refine appendA_updO (by omega) (by omega) (fun e => by rw [ho1.1 e]; rfl) (by simp; omega) (by simp) (by cases o with | none => simp | some b => simp at hb9 ho2 ho3 ho4 ⊢; simp [ho2, ho3, ho4, hb9]; exact ⟨fun e => hb9.1 e.symm, fun e => ho4 e.symm, fun e => ho3 e.symm, fun e => ho2 e.symm⟩) fun b' hb' => ?_
      simp [hb9, hb2, hb3, ho2, ho3, ho4] at hb'
      simp [h1, h2, h3, h4, hb', hb9, hb2, hb3]
      rw [← List.map_take, ← hts]
      refine turnA_to ((((AHeap.empty.upd b1 (.cells [.int .i64 l, .sl next.length (next.map intsA), .sl good.length (good.map .bool)])).upd b2 (.cells [.int .i64 0, .nilsl, .nilsl])).upd b3 (.cells [.int .i64 l, ownV (some b') (i + 1) 1, .nilsl])).updO (some b') ((R.take (i + 1)).map listI)) ?_ ⟨⟨i + 1, some b'⟩, by simp only; omega, by simp only; omega, by simp [hb'], by simp [h1, h2, h3, h4, hwi]⟩
      simp
      exact Drop.both (Drop.new (Drop.refl _) (by simp [hb9]))
    · have hli : listI (row.take 6) = .sl M ((row.take M).map (.int .i64)) := by
        rw [htk, listI_ne (fun e => by have := congrArg List.length e; simp at this; rcases this with q | q; exact hM0 q; rw [q] at hMl; simp at hMl; exact hM0 hMl), intsA, List.length_take, Nat.min_eq_left hMl]
      rw [hli] at hts
      simp [h1, h2, h3, h4, hin, hinI, hb2, hb3, ho2, ho3, ho4, hrow', intsA, hMI, hMlI, hMl, hM0]
      refine ⟨by omega, ?_⟩
      intro b8 hb8
      simp [ho2, ho3, ho4] at hb8
      simp [h1, h2, h3, h4, hb8, hb2, hb3, ho2, ho3, ho4]
      intro b9 hb9
      simp [hb8, ho2, ho3, ho4] at hb9
      simp [h1, h2, h3, h4, hb9, hb8, hb2, hb3, ho2, ho3, ho4]
      rw [← List.map_take]
      refine appendA_updO (by omega) (by omega) (fun e => by rw [ho1.1 e]; rfl) (by simp; omega) (by simp) (by cases o with | none => simp | some b => simp at hb8 hb9 ho2 ho3 ho4 ⊢; simp [ho2, ho3, ho4, hb9, hb8]; grind) fun b' hb' => ?_
      simp [hb8, hb9, hb2, hb3, ho2, ho3, ho4] at hb'
      simp [h1, h2, h3, h4, hb', hb8, hb9, hb2, hb3]
      rw [← List.map_take]
      refine turnA_cell (h0 := ((AHeap.empty.upd b1 (.cells [.int .i64 l, .sl next.length (next.map intsA), .sl good.length (good.map .bool)])).upd b2 (.cells [.int .i64 0, .nilsl, .nilsl])).upd b3 (.cells [.int .i64 l, .osl b' 0 (i + 1) 1, .nilsl])) (o := b') (rb := b8) (m := M) (prev := (R.take i).map listI) (cs := (row.take M).map (.int .i64))
        (by simp) (by simp [hb', hb8, hb9]) (by simp; omega) hfr (by simp [hb']) (show Fresh _ b8 by simp [hb8]) (fun b hb => ?_) ?_
      · have := (Drop.new (c := .cells [.osl b8 0 M 1]) (Drop.new (c := .cells ((row.take M).map (.int .i64))) (b := b8) (Drop.refl (((AHeap.empty.upd b1 (.cells [.int .i64 l, .sl next.length (next.map intsA), .sl good.length (good.map .bool)])).upd b2 (.cells [.int .i64 0, .nilsl, .nilsl])).upd b3 (.cells [.int .i64 l, .osl b' 0 (i + 1) 1, .nilsl]))) (by simp [hb8])) (b := b9) (by simp [hb8, hb9])) b
        rw [AHeap.upd_ne hb, List.map_take] at *
        exact this
      · refine ⟨⟨i + 1, some b'⟩, by simp only; omega, by simp only; omega, by simp [hb'], by simp [h1, h2, h3, h4, hwi], by simp [h1, h2, h3, h4], by simp [h1, h2, h3, h4], by simp [h1, h2, h3, h4, hwi], ?_⟩
        rw [← hts]
        simp
  · have hiN : i = N := by omega
    have hRt : R.take i = R := List.take_of_length_le (by omega)
    obtain ⟨M, hM⟩ : ∃ M, M = min good.length 65 := ⟨_, rfl⟩
    have hMI : (if 65 < (good.length : Int) then (65 : Int) else (good.length : Int)) = (M : Int) := by split <;> omega
    have hMl : M ≤ good.length := by omega
    have hMlI : (M : Int) ≤ (good.length : Int) := by omega
    have hM65 : M ≤ 65 := by omega
    have hGk : G = good.take M := by
      rw [hG, hM]
      show good.take 65 = _
      by_cases h : good.length ≤ 65
      · rw [List.take_of_length_le h, Nat.min_eq_left h, List.take_length]
      · rw [Nat.min_eq_right (by omega)]
    have hcnd : ¬ (i < next.length ∧ i ≤ 64) := by omega
    by_cases hM0 : M = 0
    · have hli : listB G = .nilsl := by rw [hGk, hM0]; rfl
      have fin : finA (fun r' _ => r' = autoV l R G) (.agg [.int .i64 l, ownV o i 1, .nilsl]) ((((AHeap.empty.upd b1 (.cells [.int .i64 l, .sl next.length (next.map intsA), .sl good.length (good.map .bool)])).upd b2 (.cells [.int .i64 l, ownV o i 1, .nilsl])).upd b3 (.cells [.int .i64 l, ownV o i 1, .nilsl])).updO o (R.map listI)) := by
        unfold autoV
        rw [hli]
        cases o with
        | none =>
          have hi0 := ho1.1 rfl
          have hRe : R = [] := List.eq_nil_of_length_eq_zero (by omega)
          refine finA_drop ?_
          rw [hRe]
          rfl
        | some b =>
          have hRne : ¬ R = [] := fun e => by
            have := ho1.2
            rw [e] at hRl
            simp at hRl
            have := this (by omega)
            cases this
          refine finA_all 3 ?_
          rw [frz_agg]
          simp only [List.map_cons, List.map_nil, ownV_some, updO_some]
          rw [frz_osl (by simp)]
          simp only [AHeap.upd_same, cellsAt]
          simp [rowsL, hRne, Function.comp_def, hiN, hRl]
          exact List.take_of_length_le (by simp; omega)
      by_cases h7 : i < next.length
      · have h7I : (i : Int) < (next.length : Int) := by omega
        have h8 : ¬ i ≤ 64 := by omega
        have h8I : ¬ (i : Int) ≤ 64 := by omega
        simp [h1, h2, h3, h4, h7, h7I, h8, h8I, hb2, hb3, ho2, ho3, ho4, hMI, hMlI, hMl, hM0]
        rw [← List.map_take, hRt]
        exact fin
      · have h7I : ¬ (i : Int) < (next.length : Int) := by omega
        simp [h1, h2, h3, h4, h7, h7I, hb2, hb3, ho2, ho3, ho4, hMI, hMlI, hMl, hM0]
        rw [← List.map_take, hRt]
        exact fin
    · have hGne : ¬ G = [] := fun e => by have := congrArg List.length (hGk.symm.trans e); simp at this; rcases this with q | q; exact hM0 q; rw [q] at hMl; simp at hMl; exact hM0 hMl
      have hli : listB G = .sl M ((good.take M).map .bool) := by
        unfold listB
        rw [if_neg hGne, boolsA, hGk, List.length_take, Nat.min_eq_left hMl]
      by_cases h7 : i < next.length
      · have h7I : (i : Int) < (next.length : Int) := by omega
        have h8 : ¬ i ≤ 64 := by omega
        have h8I : ¬ (i : Int) ≤ 64 := by omega
        simp [h1, h2, h3, h4, h7, h7I, h8, h8I, hb2, hb3, ho2, ho3, ho4, hMI, hMlI, hMl, hM0]
        refine ⟨by omega, ?_⟩
        intro b7 hb7
        simp [ho2, ho3, ho4] at hb7
        simp [h1, h2, h3, h4, hb7, hb2, hb3, ho2, ho3, ho4]
        rw [← List.map_take (f := listI), hRt]
        unfold autoV
        rw [hli]
        cases o with
        | none =>
          have hi0 := ho1.1 rfl
          have hRe : R = [] := List.eq_nil_of_length_eq_zero (by omega)
          refine finA_all 3 ?_
          rw [frz_agg]
          simp only [List.map_cons, List.map_nil, ownV_none, updO_none]
          rw [frz_osl (by simp)]
          simp [rowsL, hRe, Function.comp_def]
          rw [if_pos (by omega), List.take_take, Nat.min_self]
        | some b =>
          have hRne : ¬ R = [] := fun e => by
            have := ho1.2
            rw [e] at hRl
            simp at hRl
            have := this (by omega)
            cases this
          simp at hb7
          refine finA_all 3 ?_
          rw [frz_agg]
          simp only [List.map_cons, List.map_nil, ownV_some, updO_some]
          rw [frz_osl (by simp), frz_osl (by simp)]
          have hne : ¬ b7 = b := fun e => hb7.1 e.symm
          simp [rowsL, hRne, Function.comp_def, hiN, hRl, hb7, hne]
          refine ⟨List.take_of_length_le (by simp; omega), ?_⟩
          rw [if_pos (by omega), List.take_take, Nat.min_self]
      · have h7I : ¬ (i : Int) < (next.length : Int) := by omega
        simp [h1, h2, h3, h4, h7, h7I, hb2, hb3, ho2, ho3, ho4, hMI, hMlI, hMl, hM0]
        refine ⟨by omega, ?_⟩
        intro b7 hb7
        simp [ho2, ho3, ho4] at hb7
        simp [h1, h2, h3, h4, hb7, hb2, hb3, ho2, ho3, ho4]
        rw [← List.map_take (f := listI), hRt]
        unfold autoV
        rw [hli]
        cases o with
        | none =>
          have hi0 := ho1.1 rfl
          have hRe : R = [] := List.eq_nil_of_length_eq_zero (by omega)
          refine finA_all 3 ?_
          rw [frz_agg]
          simp only [List.map_cons, List.map_nil, ownV_none, updO_none]
          rw [frz_osl (by simp)]
          simp [rowsL, hRe, Function.comp_def]
          rw [if_pos (by omega), List.take_take, Nat.min_self]
        | some b =>
          have hRne : ¬ R = [] := fun e => by
            have := ho1.2
            rw [e] at hRl
            simp at hRl
            have := this (by omega)
            cases this
          simp at hb7
          refine finA_all 3 ?_
          rw [frz_agg]
          simp only [List.map_cons, List.map_nil, ownV_some, updO_some]
          rw [frz_osl (by simp), frz_osl (by simp)]
          have hne : ¬ b7 = b := fun e => hb7.1 e.symm
          simp [rowsL, hRne, Function.comp_def, hiN, hRl, hb7, hne]
          refine ⟨List.take_of_length_le (by simp; omega), ?_⟩
          rw [if_pos (by omega), List.take_take, Nat.min_self]
end Go.Proofs
