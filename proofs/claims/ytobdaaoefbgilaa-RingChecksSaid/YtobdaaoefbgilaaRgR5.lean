/-
  Ring: the walk of RingChecks.
-/
import Derived.Test.YtobdaaoefbgilaaRgR2
import Derived.Test.YtobdaaoefbgilaaRgR3
import Derived.Test.YtobdaaoefbgilaaRgR4
set_option linter.unusedSimpArgs false
set_option linter.unusedVariables false
set_option linter.unusedSectionVars false
namespace Go.Proofs
open Go Go.AH
set_option maxRecDepth 10000
set_option maxHeartbeats 4000000

theorem l_equal (x y : Int) (R : List (List Int)) (hR : R.length ≤ 1000) (hrow : ∀ row ∈ R, row ≠ [] ∧ row.length ≤ 1000000) : Pure Try.prog 47 [.agg [.int .i64 x, .int .i64 y, rowsA R], .agg [.int .i64 x, .int .i64 y, rowsA R]] (.bool true) := by
  refine pure_of (acalls_of Try.func47 rfl Try.call47 (by kernel_rfl) (by show _ ≤ (46 : Nat); simp) ?_)
  simp [rowsA]
  intro b2 hb2
  simp
  intro b3 hb3
  simp at hb3
  simp [hb3]
  refine awp_loop_g (γ := Nat) (fun i t h => (i ≤ R.length) ∧ t 2 = .ptr b2 0 ∧ t 3 = .ptr b3 0 ∧ t 5 = .int .i64 i ∧ h = ((AHeap.empty.upd b2 (.cells [.int .i64 x, .int .i64 y, .sl R.length (R.map intsA)])).upd b3 (.cells [.int .i64 x, .int .i64 y, .sl R.length (R.map intsA)]))) (fun i => R.length - i) (0) (turnA_self (by simp)) ?_
  rintro i t h ⟨hi, h2, h3, h5, rfl⟩
  by_cases hlt : i < R.length
  · have hwi : IntKind.i64.wrap ((i : Int) + 1) = (i : Int) + 1 := wrap_i64 (by omega) (by omega)
    have hltI : (i : Int) < (R.length : Int) := by omega
    obtain ⟨row, hr⟩ : ∃ row, row = R[i] := ⟨_, rfl⟩
    have hr' : R[i]'hlt = row := hr.symm
    obtain ⟨hne, hle⟩ := hrow row (by rw [hr]; exact List.getElem_mem hlt)
    have cs := l_same row row hle hle
    rw [listI_ne hne] at cs
    simp at cs
    simp [h2, h3, h5, hb3, hltI, hlt]
    refine awp_draw_text (by kernel_rfl) [44] [(.fn (.func 17) [] [], [intsA row, intsA row], .bool true)] (by kernel_rfl) (by kernel_rfl) (by simp; exact PureV.of cs) ?_
    simp [h2, h3, h5, hb3, hlt, hr', gamGet_here]
    exact turnA_self ⟨i + 1, by omega, by omega, by simp [h2, h3, h5, hwi]⟩
  · have hltI : ¬ (i : Int) < (R.length : Int) := by omega
    simp [h2, h3, h5, hb3, hltI, hlt]
    exact finA_drop rfl
theorem l_equal0 : Pure Try.prog 47 [noRul, noRul] (.bool true) := by
  refine pure_of (acalls_of Try.func47 rfl Try.call47 (by kernel_rfl) (by show _ ≤ (46 : Nat); simp) ?_)
  simp [noRul]
  intro b2 hb2
  simp
  intro b3 hb3
  simp at hb3
  simp [hb3]
  refine awp_loop_g (γ := Nat) (fun i t h => (i = 0) ∧ t 2 = .ptr b2 0 ∧ t 3 = .ptr b3 0 ∧ t 5 = .int .i64 0 ∧ h = ((AHeap.empty.upd b2 (.cells [.int .i64 0, .int .i64 0, .nilsl])).upd b3 (.cells [.int .i64 0, .int .i64 0, .nilsl]))) (fun i => 0 - i) (0) (turnA_self (by simp)) ?_
  rintro i t h ⟨hi, h2, h3, h5, rfl⟩
  simp [h2, h3, h5, hb3]
  exact finA_drop rfl
theorem chkE_or (m c : Int) (rows : List (List Int)) : chkE m c rows = 0 ∨ chkE m c rows = 80 := by
  unfold chkE; split
  · exact .inl rfl
  · exact .inr rfl
theorem e_dij (m c : Int) (h : ¬ sizeN m c = 0) : Pure Try.prog 47 [(dijR m.toNat c.toNat).av, (dijR m.toNat c.toNat).av] (.bool true) := by
  obtain ⟨m, c, rfl, rfl, h1, h2, h3, h4, h5⟩ := sizeN_ne h
  refine l_equal _ _ _ (by simp [dijR]; omega) fun row hr => ?_
  obtain ⟨i, _, rfl⟩ := List.mem_map.1 hr
  have hc := ccc_le h4
  have hp : 0 < c * c * c := Nat.mul_pos (Nat.mul_pos (by omega) (by omega)) (by omega)
  simp only [Int.toNat_natCast]
  constructor
  · intro e
    have := congrArg List.length e
    simp at this
    omega
  · simp; omega
theorem e_four (m : Int) (h : 3 ≤ m ∧ m ≤ 6) : Pure Try.prog 47 [(fourR m.toNat).av, (fourR m.toNat).av] (.bool true) := by
  refine l_equal _ _ _ (by simp [fourR]; omega) fun row hr => ?_
  obtain ⟨i, _, rfl⟩ := List.mem_map.1 hr
  constructor
  · intro e
    have := congrArg List.length e
    simp at this
  · simp
structure CQ where
  k : Nat
  m : Int
  c : Int
theorem drop_one {h : AHeap} {b : Nat} {c : Chunk} (e : h b = some c) : Drop h (AHeap.empty.upd b c) := fun x => by
  by_cases q : x = b
  · subst q; right; rw [AHeap.upd_same, e]
  · left; rw [AHeap.upd_ne q]; rfl
def Pair (e : Int) (ok : Bool) : Prop := (e = 0 ∧ ok = true) ∨ (e = 1 ∧ ok = false)
theorem dij_pair (m c : Int) : ∃ x y V e ok, Pure Try.prog 29 [.int .i64 m, .int .i64 c] (.tup [.agg [.int .i64 x, .int .i64 y, V], .int .i64 e]) ∧ Pure Try.prog 31 [.int .i64 m, .int .i64 c] (.tup [.agg [.int .i64 x, .int .i64 y, V], .bool ok]) ∧ Pair e ok ∧ V.one = true ∧ V.fit = true ∧ V.cells = [V] ∧
    Pure Try.prog 47 [.agg [.int .i64 x, .int .i64 y, V], .agg [.int .i64 x, .int .i64 y, V]] (.bool true) := by
  have c1 := w_Dijkstra m c
  have c2 := r_Dijkstra m c
  by_cases h : sizeN m c = 0
  · rw [if_pos h] at c1 c2
    exact ⟨0, 0, .nilsl, 1, false, c1, c2, .inr ⟨rfl, rfl⟩, rfl, rfl, rfl, l_equal0⟩
  · rw [if_neg h] at c1 c2
    exact ⟨_, _, _, 0, true, c1, c2, .inl ⟨rfl, rfl⟩, rfl, rfl, rfl, e_dij m c h⟩
theorem four_pair (m : Int) : ∃ x y V e ok, Pure Try.prog 32 [.int .i64 m] (.tup [.agg [.int .i64 x, .int .i64 y, V], .int .i64 e]) ∧ Pure Try.prog 46 [.int .i64 m] (.tup [.agg [.int .i64 x, .int .i64 y, V], .bool ok]) ∧ Pair e ok ∧ V.one = true ∧ V.fit = true ∧ V.cells = [V] ∧
    Pure Try.prog 47 [.agg [.int .i64 x, .int .i64 y, V], .agg [.int .i64 x, .int .i64 y, V]] (.bool true) := by
  have c1 := w_Four m
  have c2 := r_Four m
  by_cases h : 3 ≤ m ∧ m ≤ 6
  · rw [if_pos h] at c1 c2
    exact ⟨_, _, _, 0, true, c1, c2, .inl ⟨rfl, rfl⟩, rfl, rfl, rfl, e_four m h⟩
  · rw [if_neg h] at c1 c2
    exact ⟨0, 0, .nilsl, 1, false, c1, c2, .inr ⟨rfl, rfl⟩, rfl, rfl, rfl, l_equal0⟩
theorem l_RingChecks (mach col : Int) (next : List (List Int)) (o0 o1 : Int) (hn : next.length ≤ 20000000000000) (hrl : ∀ row ∈ next, row.length ≤ 20000000000000) :
    Pure Try.prog 10 [.agg [.int .i64 mach, .int .i64 col, rowsA next], .agg [.int .i64 o0, .int .i64 o1]] (.bool true) := by
  refine pure_of (acalls_of Try.func10 rfl Try.call10 (by kernel_rfl) (by show _ ≤ (225 : Nat); simp) ?_)
  have ct := l_cut mach col next hn hrl
  obtain ⟨R, hR⟩ : ∃ R, R = cutR next := ⟨_, rfl⟩
  have hRl : R.length ≤ 1000000 := by have := cutR_len next; rw [hR]; omega
  have hRr : ∀ row ∈ R, row.length ≤ 1000000 := fun row h => by have := cutR_row next row (by rw [← hR]; exact h); omega
  rw [← hR] at ct
  have cg := l_giveG mach col R
  have c1 := w_CheckG mach col R hRl hRr
  have c2 := r_CheckG mach col R hRl hRr
  have caw := w_awake
  obtain ⟨e, he⟩ : ∃ e, e = chkE mach col R := ⟨_, rfl⟩
  have hor := chkE_or mach col R
  rw [← he] at c1 c2 hor
  obtain ⟨V, hV⟩ : ∃ V, V = rowsL R := ⟨_, rfl⟩
  have hV1 : V.one = true := by rw [hV]; simp
  have hV2 : V.fit = true := by rw [hV]; simp
  have hV3 : V.cells = [V] := by rw [hV]; simp
  have hrv : rulV mach col R = .agg [.int .i64 mach, .int .i64 col, V] := by rw [hV]; rfl
  have xn := fun cc => x_Number (m := mach) (c := col) (rows := R) cc
  have xc := fun cc => x_Config (m := mach) (c := col) (rows := R) cc
  have xr := fun cc => x_Ready (m := mach) (c := col) (rows := R) cc
  have xs := fun cc => x_Step (m := mach) (c := col) (rows := R) cc
  have xg := fun cc => x_Good (m := mach) (c := col) (rows := R) cc
  have xj := fun cc => x_Judge (m := mach) (c := col) (rows := R) cc
  have xk := fun cc => x_Rank (m := mach) (c := col) (rows := R) cc
  have xp := fun cc => x_Play (m := mach) (c := col) (rows := R) cc
  have xi := fun cc => x_IsRank (m := mach) (c := col) (rows := R) cc
  have xo := fun cc => x_IsRound (m := mach) (c := col) (rows := R) cc
  rw [hrv] at ct cg c1 c2 xn xc xr xs xg xj xk xp xi xo
  simp
  intro b2 hb2
  simp
  intro b3 hb3
  simp at hb3
  simp [hb3]
  refine ct.use ?_
  simp [hV1, hV2, hV3]
  intro b5 hb5
  simp at hb5
  simp [hb3, hb5, hV1, hV2, hV3]
  refine cg.use ?_
  simp [hV1, hV2, hV3]
  intro b6 hb6
  simp at hb6
  simp [hb3, hb5, hb6, hV1, hV2, hV3]
  refine c2.use ?_
  simp [hb3, hb5, hb6, hV1, hV2, hV3]
  refine c1.use ?_
  rcases hor with rfl | rfl
  · simp [hb3, hb5, hb6, hV1, hV2, hV3]
    refine awp_loop_g (γ := CQ) (fun q t h => (q.k ≤ 2) ∧ t 3 = .ptr b3 0 ∧ t 24 = .int .i64 q.k ∧ h = (AHeap.empty.upd b3 (.cells [.int .i64 q.m, .int .i64 q.c]))) (fun q => 2 - q.k) (⟨0, o0, o1⟩) (turnA_to (AHeap.empty.upd b3 (.cells [.int .i64 o0, .int .i64 o1])) (drop_one (by simp [hb3, hb5, hb6])) (by simp)) ?_
    rintro q t hx ⟨hk, h3, h24, ex⟩
    rw [ex]
    clear ex
    obtain ⟨k, p0, p1⟩ := q
    simp only at h3 h24 hk
    by_cases hlt : k < 2
    · have hkI : (k : Int) < 2 := by omega
      have hwk : IntKind.i64.wrap ((k : Int) + 1) = (k : Int) + 1 := wrap_i64 (by omega) (by omega)
      obtain ⟨x1, y1, V1, g1, k1, d1, d2, pr1, v11, v12, v13, eq1⟩ := dij_pair p0 p1
      obtain ⟨x2, y2, V2, g2, k2, d3, d4, pr2, v21, v22, v23, eq2⟩ := four_pair p0
      have hya := uM_lt (x := p0) (n := 8) (by omega)
      have hyb := uM_lt (x := p1) (n := 8) (by omega)
      have va := uM_mod (x := p0) (n := 8) (by omega)
      have vb := uM_mod (x := p1) (n := 8) (by omega)
      obtain ⟨ya, hy1⟩ : ∃ y, y = uM p0 8 := ⟨_, rfl⟩
      obtain ⟨yb, hy2⟩ : ∃ y, y = uM p1 8 := ⟨_, rfl⟩
      rw [← hy1] at hya va
      rw [← hy2] at hyb vb
      have va4 : (IntKind.u64.wrap p0).tmod 8 = (ya : Int) := va
      have vb4 : (IntKind.u64.wrap p1).tmod 8 = (yb : Int) := vb
      have wa : IntKind.i64.wrap (ya : Int) = (ya : Int) := wrap_i64 (by omega) (by omega)
      have wb : IntKind.i64.wrap (yb : Int) = (yb : Int) := wrap_i64 (by omega) (by omega)
      simp [h3, h24, hkI]
      refine d1.use ?_
      simp [h3, h24, v11, v12, v13]
      intro b25 f25
      simp at f25
      simp [h3, h24, f25, v11, v12, v13]
      refine d2.use ?_
      simp [h3, h24, f25, v11, v12, v13]
      intro b27 f27
      simp at f27
      simp [h3, h24, f25, f27, v11, v12, v13]
      refine d3.use ?_
      simp [h3, h24, f25, f27, v21, v22, v23]
      intro b29 f29
      simp at f29
      simp [h3, h24, f25, f27, f29, v21, v22, v23]
      refine d4.use ?_
      simp [h3, h24, f25, f27, f29, v21, v22, v23]
      intro b31 f31
      simp at f31
      rcases pr1 with ⟨rfl, rfl⟩ | ⟨rfl, rfl⟩ <;> rcases pr2 with ⟨rfl, rfl⟩ | ⟨rfl, rfl⟩
      · simp [h3, h24, f25, f27, f29, f31, v11, v12, v13, v21, v22, v23]
        refine eq1.use ?_
        simp [h3, h24, f25, f27, f29, f31]
        refine eq2.use ?_
        simp [h3, h24, f25, f27, f29, f31, va4, vb4, wa, wb]
        refine turnA_to (AHeap.empty.upd b3 (.cells [.int .i64 ya, .int .i64 yb])) (drop_one (by simp [f25, f27, f29, f31])) ⟨⟨k + 1, ya, yb⟩, by simp only; omega, by simp only; omega, by simp [h3, h24, hwk]⟩
      · simp [h3, h24, f25, f27, f29, f31, v11, v12, v13, v21, v22, v23]
        refine eq1.use ?_
        simp [h3, h24, f25, f27, f29, f31]
        refine eq2.use ?_
        simp [h3, h24, f25, f27, f29, f31, va4, vb4, wa, wb]
        refine turnA_to (AHeap.empty.upd b3 (.cells [.int .i64 ya, .int .i64 yb])) (drop_one (by simp [f25, f27, f29, f31])) ⟨⟨k + 1, ya, yb⟩, by simp only; omega, by simp only; omega, by simp [h3, h24, hwk]⟩
      · simp [h3, h24, f25, f27, f29, f31, v11, v12, v13, v21, v22, v23]
        refine eq1.use ?_
        simp [h3, h24, f25, f27, f29, f31]
        refine eq2.use ?_
        simp [h3, h24, f25, f27, f29, f31, va4, vb4, wa, wb]
        refine turnA_to (AHeap.empty.upd b3 (.cells [.int .i64 ya, .int .i64 yb])) (drop_one (by simp [f25, f27, f29, f31])) ⟨⟨k + 1, ya, yb⟩, by simp only; omega, by simp only; omega, by simp [h3, h24, hwk]⟩
      · simp [h3, h24, f25, f27, f29, f31, v11, v12, v13, v21, v22, v23]
        refine eq1.use ?_
        simp [h3, h24, f25, f27, f29, f31]
        refine eq2.use ?_
        simp [h3, h24, f25, f27, f29, f31, va4, vb4, wa, wb]
        refine turnA_to (AHeap.empty.upd b3 (.cells [.int .i64 ya, .int .i64 yb])) (drop_one (by simp [f25, f27, f29, f31])) ⟨⟨k + 1, ya, yb⟩, by simp only; omega, by simp only; omega, by simp [h3, h24, hwk]⟩
    · have hkI : ¬ (k : Int) < 2 := by omega
      simp [h3, h24, hkI]
      refine caw.use ?_
      simp
      exact finA_drop rfl
  · have yn := xn c1; have yc := xc c1; have yr := xr c1; have ys := xs c1; have yg := xg c1; have yj := xj c1; have yk := xk c1; have yp := xp c1; have yi := xi c1; have yo := xo c1
    clear xn xc xr xs xg xj xk xp xi xo
    simp [hb3, hb5, hb6, hV1, hV2, hV3]
    refine yn.use ?_
    simp [hb3, hb5, hb6, hV1, hV2, hV3]
    refine yc.use ?_
    simp [hb3, hb5, hb6, hV1, hV2, hV3]
    refine yr.use ?_
    simp [hb3, hb5, hb6, hV1, hV2, hV3]
    refine ys.use ?_
    simp [hb3, hb5, hb6, hV1, hV2, hV3]
    refine yg.use ?_
    simp [hb3, hb5, hb6, hV1, hV2, hV3]
    refine yj.use ?_
    simp [hb3, hb5, hb6, hV1, hV2, hV3]
    intro b18 hb18
    simp at hb18
    simp [hb3, hb5, hb6, hb18, hV1, hV2, hV3]
    refine yk.use ?_
    simp [hb3, hb5, hb6, hb18, hV1, hV2, hV3]
    intro b82 hb82
    simp at hb82
    simp [hb3, hb5, hb6, hb18, hb82, hV1, hV2, hV3]
    refine ACalls.mono (yp b82 _ (by simp)) ?_
    rintro _ _ ⟨rfl, rfl⟩
    simp [hb3, hb5, hb6, hb18, hb82, hV1, hV2, hV3]
    refine yi.use ?_
    simp [hb3, hb5, hb6, hb18, hb82, hV1, hV2, hV3]
    intro b140 hb140
    simp at hb140
    simp [hb3, hb5, hb6, hb18, hb82, hb140, hV1, hV2, hV3]
    refine ACalls.mono (yo b140 _ (by simp)) ?_
    rintro _ _ ⟨rfl, rfl⟩
    simp [hb3, hb5, hb6, hb18, hb82, hb140, hV1, hV2, hV3]
    refine awp_loop_g (γ := CQ) (fun q t h => (q.k ≤ 2) ∧ t 3 = .ptr b3 0 ∧ t 24 = .int .i64 q.k ∧ h = (AHeap.empty.upd b3 (.cells [.int .i64 q.m, .int .i64 q.c]))) (fun q => 2 - q.k) (⟨0, o0, o1⟩) (turnA_to (AHeap.empty.upd b3 (.cells [.int .i64 o0, .int .i64 o1])) (drop_one (by simp [hb3, hb5, hb6, hb18, hb82, hb140])) (by simp)) ?_
    rintro q t hx ⟨hk, h3, h24, ex⟩
    rw [ex]
    clear ex
    obtain ⟨k, p0, p1⟩ := q
    simp only at h3 h24 hk
    by_cases hlt : k < 2
    · have hkI : (k : Int) < 2 := by omega
      have hwk : IntKind.i64.wrap ((k : Int) + 1) = (k : Int) + 1 := wrap_i64 (by omega) (by omega)
      obtain ⟨x1, y1, V1, g1, k1, d1, d2, pr1, v11, v12, v13, eq1⟩ := dij_pair p0 p1
      obtain ⟨x2, y2, V2, g2, k2, d3, d4, pr2, v21, v22, v23, eq2⟩ := four_pair p0
      have hya := uM_lt (x := p0) (n := 8) (by omega)
      have hyb := uM_lt (x := p1) (n := 8) (by omega)
      have va := uM_mod (x := p0) (n := 8) (by omega)
      have vb := uM_mod (x := p1) (n := 8) (by omega)
      obtain ⟨ya, hy1⟩ : ∃ y, y = uM p0 8 := ⟨_, rfl⟩
      obtain ⟨yb, hy2⟩ : ∃ y, y = uM p1 8 := ⟨_, rfl⟩
      rw [← hy1] at hya va
      rw [← hy2] at hyb vb
      have va4 : (IntKind.u64.wrap p0).tmod 8 = (ya : Int) := va
      have vb4 : (IntKind.u64.wrap p1).tmod 8 = (yb : Int) := vb
      have wa : IntKind.i64.wrap (ya : Int) = (ya : Int) := wrap_i64 (by omega) (by omega)
      have wb : IntKind.i64.wrap (yb : Int) = (yb : Int) := wrap_i64 (by omega) (by omega)
      simp [h3, h24, hkI]
      refine d1.use ?_
      simp [h3, h24, v11, v12, v13]
      intro b25 f25
      simp at f25
      simp [h3, h24, f25, v11, v12, v13]
      refine d2.use ?_
      simp [h3, h24, f25, v11, v12, v13]
      intro b27 f27
      simp at f27
      simp [h3, h24, f25, f27, v11, v12, v13]
      refine d3.use ?_
      simp [h3, h24, f25, f27, v21, v22, v23]
      intro b29 f29
      simp at f29
      simp [h3, h24, f25, f27, f29, v21, v22, v23]
      refine d4.use ?_
      simp [h3, h24, f25, f27, f29, v21, v22, v23]
      intro b31 f31
      simp at f31
      rcases pr1 with ⟨rfl, rfl⟩ | ⟨rfl, rfl⟩ <;> rcases pr2 with ⟨rfl, rfl⟩ | ⟨rfl, rfl⟩
      · simp [h3, h24, f25, f27, f29, f31, v11, v12, v13, v21, v22, v23]
        refine eq1.use ?_
        simp [h3, h24, f25, f27, f29, f31]
        refine eq2.use ?_
        simp [h3, h24, f25, f27, f29, f31, va4, vb4, wa, wb]
        refine turnA_to (AHeap.empty.upd b3 (.cells [.int .i64 ya, .int .i64 yb])) (drop_one (by simp [f25, f27, f29, f31])) ⟨⟨k + 1, ya, yb⟩, by simp only; omega, by simp only; omega, by simp [h3, h24, hwk]⟩
      · simp [h3, h24, f25, f27, f29, f31, v11, v12, v13, v21, v22, v23]
        refine eq1.use ?_
        simp [h3, h24, f25, f27, f29, f31]
        refine eq2.use ?_
        simp [h3, h24, f25, f27, f29, f31, va4, vb4, wa, wb]
        refine turnA_to (AHeap.empty.upd b3 (.cells [.int .i64 ya, .int .i64 yb])) (drop_one (by simp [f25, f27, f29, f31])) ⟨⟨k + 1, ya, yb⟩, by simp only; omega, by simp only; omega, by simp [h3, h24, hwk]⟩
      · simp [h3, h24, f25, f27, f29, f31, v11, v12, v13, v21, v22, v23]
        refine eq1.use ?_
        simp [h3, h24, f25, f27, f29, f31]
        refine eq2.use ?_
        simp [h3, h24, f25, f27, f29, f31, va4, vb4, wa, wb]
        refine turnA_to (AHeap.empty.upd b3 (.cells [.int .i64 ya, .int .i64 yb])) (drop_one (by simp [f25, f27, f29, f31])) ⟨⟨k + 1, ya, yb⟩, by simp only; omega, by simp only; omega, by simp [h3, h24, hwk]⟩
      · simp [h3, h24, f25, f27, f29, f31, v11, v12, v13, v21, v22, v23]
        refine eq1.use ?_
        simp [h3, h24, f25, f27, f29, f31]
        refine eq2.use ?_
        simp [h3, h24, f25, f27, f29, f31, va4, vb4, wa, wb]
        refine turnA_to (AHeap.empty.upd b3 (.cells [.int .i64 ya, .int .i64 yb])) (drop_one (by simp [f25, f27, f29, f31])) ⟨⟨k + 1, ya, yb⟩, by simp only; omega, by simp only; omega, by simp [h3, h24, hwk]⟩
    · have hkI : ¬ (k : Int) < 2 := by omega
      simp [h3, h24, hkI]
      refine caw.use ?_
      simp
      exact finA_drop rfl
end Go.Proofs
