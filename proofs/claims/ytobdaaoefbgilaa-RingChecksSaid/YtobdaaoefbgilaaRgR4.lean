/-
  Ring: the reference's protocol with four colours; the law's equal.
-/
import Derived.Test.YtobdaaoefbgilaaRgO3
set_option linter.unusedSimpArgs false
set_option linter.unusedVariables false
set_option linter.unusedSectionVars false
namespace Go.Proofs
open Go Go.AH
set_option maxRecDepth 10000
set_option maxHeartbeats 4000000

theorem r_half (m i x : Nat) (hm : 3 ≤ m ∧ m ≤ 6) (hi : i < m) (hx : x < 4) : Pure Try.prog 81 [.int .i64 m, .int .i64 i, .int .i64 x] (.tup [.int .i64 (x / 2 : Nat), .int .i64 (hupF m i x : Nat)]) := by
  refine pure_of (acalls_of Try.func81 rfl Try.call81 (by kernel_rfl) (by show _ ≤ (22 : Nat); simp) ?_)
  have wm : IntKind.i64.wrap ((m : Int) - 1) = ((m - 1 : Nat) : Int) := by rw [wrap_i64 (by omega) (by omega)]; omega
  have d0 : (x : Int) / 2 = ((x / 2 : Nat) : Int) := rfl
  have d1 : Int.tmod (x : Int) 2 = ((x % 2 : Nat) : Int) := rfl
  have w0 : IntKind.i64.wrap ((x / 2 : Nat) : Int) = ((x / 2 : Nat) : Int) := wrap_i64 (by omega) (by omega)
  obtain ⟨X, hX⟩ : ∃ X, X = x / 2 := ⟨_, rfl⟩
  obtain ⟨U, hU⟩ : ∃ U, U = x % 2 := ⟨_, rfl⟩
  obtain ⟨L, hL⟩ : ∃ L, L = m - 1 := ⟨_, rfl⟩
  rw [← hX] at d0 w0 ⊢
  rw [← hU] at d1
  rw [← hL] at wm
  unfold hupF
  rw [← hL, ← hU]
  by_cases e1 : i = 0
  · subst e1
    have e2 : ¬ 0 = L := by omega
    have e2I : ¬ (0 : Int) = (L : Int) := by omega
    simp [d0, d1, w0, wm, e2, e2I]
    exact finA_drop (by simp [e2])
  · by_cases e2 : i = L
    · subst e2
      simp [d0, d1, w0, wm, e1]
      exact finA_drop (by simp)
    · have e2I : ¬ (i : Int) = (L : Int) := by omega
      simp [d0, d1, w0, wm, e1, e2, e2I]
      exact finA_drop (by simp [e1, e2])
theorem r_four1 (m i l o s : Nat) (hm : 3 ≤ m ∧ m ≤ 6) (hi : i < m) (hl : l < 4) (ho : o < 4) (hs : s < 4) : Pure Try.prog 71 [.int .i64 m, .int .i64 i, .int .i64 l, .int .i64 o, .int .i64 s] (.int .i64 (fourV m i l o s)) := by
  refine pure_of (acalls_of Try.func71 rfl Try.call71 (by kernel_rfl) (by show _ ≤ (91 : Nat); simp) ?_)
  have hp1 : (i + m - 1) % m < m := Nat.mod_lt _ (by omega)
  have hp2 : (i + 1) % m < m := Nat.mod_lt _ (by omega)
  have c1 := r_half m ((i + m - 1) % m) l hm hp1 hl
  have c2 := r_half m i o hm hi ho
  have c3 := r_half m ((i + 1) % m) s hm hp2 hs
  have w1 : IntKind.i64.wrap ((i : Int) + (m : Int)) = ((i + m : Nat) : Int) := by rw [wrap_i64 (by omega) (by omega)]; omega
  have w2 : IntKind.i64.wrap (((i + m : Nat) : Int) - 1) = ((i + m - 1 : Nat) : Int) := by rw [wrap_i64 (by omega) (by omega)]; omega
  have w3 : IntKind.i64.wrap ((i : Int) + 1) = ((i + 1 : Nat) : Int) := wrap_i64 (by omega) (by omega)
  have t1 : Int.tmod ((i + m - 1 : Nat) : Int) (m : Int) = (((i + m - 1) % m : Nat) : Int) := rfl
  have t2 : Int.tmod ((i + 1 : Nat) : Int) (m : Int) = (((i + 1) % m : Nat) : Int) := rfl
  have wm : IntKind.i64.wrap ((m : Int) - 1) = ((m - 1 : Nat) : Int) := by rw [wrap_i64 (by omega) (by omega)]; omega
  have hm0 : ¬ m = 0 := by omega
  have h1m : i = 0 → (i + 1) % m = 1 := fun e => by subst e; exact Nat.mod_eq_of_lt (by omega)
  have h2m : ¬ i = m - 1 → (i + 1) % m = i + 1 := fun e => Nat.mod_eq_of_lt (by omega)
  unfold fourV
  obtain ⟨pa, hpa⟩ : ∃ pa, pa = i + m := ⟨_, rfl⟩
  rw [← hpa] at w1 w2
  obtain ⟨pb, hpb⟩ : ∃ pb, pb = i + m - 1 := ⟨_, rfl⟩
  rw [show pa - 1 = pb from by omega] at w2
  rw [← hpb] at t1 c1
  obtain ⟨pc, hpc⟩ : ∃ pc, pc = i + 1 := ⟨_, rfl⟩
  obtain ⟨pm, hpm⟩ : ∃ pm, pm = pb % m := ⟨_, rfl⟩
  obtain ⟨pn, hpn⟩ : ∃ pn, pn = (i + 1) % m := ⟨_, rfl⟩
  rw [← hpm] at t1 c1
  rw [← hpn] at t2 c3 h1m h2m
  rw [← hpc] at w3 t2
  obtain ⟨X, hX⟩ : ∃ X, X = o / 2 := ⟨_, rfl⟩
  obtain ⟨Y, hY⟩ : ∃ Y, Y = s / 2 := ⟨_, rfl⟩
  obtain ⟨Z, hZ⟩ : ∃ Z, Z = l / 2 := ⟨_, rfl⟩
  rw [← hZ] at c1
  rw [← hX] at c2
  rw [← hY] at c3
  rw [← hX, ← hY, ← hZ]
  obtain ⟨L, hL⟩ : ∃ L, L = m - 1 := ⟨_, rfl⟩
  rw [← hL] at wm h2m ⊢
  have hXb : X ≤ 1 := by omega
  have hYb : Y ≤ 1 := by omega
  have hZb : Z ≤ 1 := by omega
  simp [hm0]
  rw [w1, w2, t1]
  refine c1.use ?_
  simp
  refine c2.use ?_
  simp [hm0]
  rw [w3, t2]
  refine c3.use ?_
  have v2X : IntKind.i64.wrap (2 * (X : Int)) = 2 * (X : Int) := wrap_i64 (by omega) (by omega)
  have v2Z : IntKind.i64.wrap (2 * (Z : Int)) = 2 * (Z : Int) := wrap_i64 (by omega) (by omega)
  have v3Z : IntKind.i64.wrap (2 * (Z : Int) + 1) = 2 * (Z : Int) + 1 := wrap_i64 (by omega) (by omega)
  have u1 : IntKind.i64.wrap (1 - (X : Int)) = 1 - (X : Int) := wrap_i64 (by omega) (by omega)
  have u2 : IntKind.i64.wrap (2 * (1 - (X : Int))) = 2 * (1 - (X : Int)) := wrap_i64 (by omega) (by omega)
  have u3 : IntKind.i64.wrap (2 * (1 - (X : Int)) + 1) = 2 * (1 - (X : Int)) + 1 := wrap_i64 (by omega) (by omega)
  by_cases i0 : i = 0
  · have hn := h1m i0
    subst hn
    by_cases e1 : Y = X
    · by_cases e2 : hupF m 1 s = 0
      · simp [i0, e1, e2, u1, u2, u3]
        exact finA_drop (by simp)
      · simp [i0, e1, e2]
        exact finA_drop (by simp)
    · have e1I : ¬ (Y : Int) = (X : Int) := by omega
      simp [i0, e1, e1I]
      exact finA_drop (by simp)
  · by_cases i1 : i = L
    · subst i1
      by_cases e1 : Z = X
      · simp [i0, wm, e1]
        exact finA_drop (by simp [i0])
      · have e1I : ¬ (Z : Int) = (X : Int) := by omega
        simp [i0, wm, e1, e1I, v2Z]
        exact finA_drop (by simp)
    · have i1I : ¬ (i : Int) = (L : Int) := by omega
      have hn := h2m i1
      rw [← hn]
      by_cases e1 : Z = X
      · by_cases e2 : hupF m i o = 1
        · have e2I : ((hupF m i o : Nat) : Int) = 1 := by omega
          by_cases e3 : Y = X
          · by_cases e4 : hupF m pn s = 0
            · simp [i0, i1, i1I, wm, e1, e2, e2I, e3, e4, v2X]
              exact finA_drop (by simp [e2, e3])
            · simp [i0, i1, i1I, wm, e1, e2, e2I, e3, e4]
              exact finA_drop (by simp [e2, e3])
          · have e3I : ¬ (Y : Int) = (X : Int) := by omega
            simp [i0, i1, i1I, wm, e1, e2, e2I, e3, e3I]
            exact finA_drop (by simp [e3])
        · have e2I : ¬ ((hupF m i o : Nat) : Int) = 1 := by omega
          simp [i0, i1, i1I, wm, e1, e2, e2I]
          exact finA_drop (by simp [e2])
      · have e1I : ¬ (Z : Int) = (X : Int) := by omega
        simp [i0, i1, i1I, wm, e1, e1I, v2Z, v3Z]
        exact finA_drop (by simp)
theorem r_Four (m : Int) : Pure Try.prog 46 [.int .i64 m] (if 3 ≤ m ∧ m ≤ 6 then .tup [(fourR m.toNat).av, .bool true] else .tup [noRul, .bool false]) := by
  refine pure_of (acalls_of Try.func46 rfl Try.call46 (by kernel_rfl) (by show _ ≤ (48 : Nat); simp) ?_)
  by_cases hin : 3 ≤ m ∧ m ≤ 6
  · rw [if_pos hin]
    obtain ⟨m, rfl⟩ : ∃ a : Nat, m = a := ⟨m.toNat, by omega⟩
    have g1 : ¬ (m : Int) < 3 := by omega
    have g2 : ¬ 6 < (m : Int) := by omega
    have hm3 : 3 ≤ m ∧ m ≤ 6 := by omega
    have hrow0 : (fourR m).av = .agg [.int .i64 m, .int .i64 4, rowsA ((List.range m).map fun i => (List.range 64).map (fourT m i))] := rfl
    obtain ⟨row, hrow⟩ : ∃ row : Nat → List Int, row = fun i => (List.range 64).map (fourT m i) := ⟨_, rfl⟩
    have hrl : ∀ i, (row i).length = 64 := by intro i; rw [hrow]; simp
    have hrg : ∀ i k, k < 64 → ((row i).take (k + 1)).map (AV.int .i64) = ((row i).take k).map (AV.int .i64) ++ [.int .i64 (fourT m i k)] := by intro i k hk; rw [hrow]; exact rowT_get hk
    rw [show ((List.range m).map fun i => (List.range 64).map (fourT m i)) = (List.range m).map row from by rw [hrow]] at hrow0
    simp only [Int.toNat_natCast, hrow0]
    simp [g1, g2]
    intro b2 hb2
    simp [g1, g2]
    intro b4 hb4
    obtain ⟨n42, n24⟩ : ¬ b4 = b2 ∧ ¬ b2 = b4 := by simpa using hb4
    simp [n42, n24, splice]
    refine awp_loop_g (γ := At) (fun q t h => (q.i ≤ m) ∧ ((q.o = none ↔ q.i = 0) ∧ ¬ q.o = some b2 ∧ ¬ q.o = some b4) ∧ t 0 = .int .i64 m ∧ t 2 = .ptr b2 0 ∧ t 4 = .ptr b4 0 ∧ t 5 = .int .i64 q.i ∧ h = ((AHeap.empty.upd b2 (.cells [.int .i64 0, .int .i64 0, .nilsl])).upd b4 (.cells [.int .i64 m, .int .i64 4, ownV q.o q.i 1])).updO q.o ((List.range q.i).map fun i => intsA (row i))) (fun q => m - q.i) (⟨0, none⟩) (turnA_self (by simp)) ?_
    rintro q t hx ⟨hi, ho, h0, h2, h4, h5, ex⟩
    rw [ex]
    clear ex
    obtain ⟨i, o⟩ := q
    simp only at h0 h2 h4 h5 hi ho
    obtain ⟨ho1, ho2, ho3⟩ := ho
    by_cases hlt : i < m
    · have hwi : IntKind.i64.wrap ((i : Int) + 1) = (i : Int) + 1 := wrap_i64 (by omega) (by omega)
      obtain ⟨HH, hHH⟩ : ∃ HH, HH = ((AHeap.empty.upd b2 (.cells [.int .i64 0, .int .i64 0, .nilsl])).upd b4 (.cells [.int .i64 m, .int .i64 4, ownV o i 1])).updO o ((List.range i).map fun i => intsA (row i)) := ⟨_, rfl⟩
      simp [h0, h2, h4, h5, hlt]
      rw [← hHH]
      refine loop_cut (fun t hq => t 0 = .int .i64 m ∧ t 2 = .ptr b2 0 ∧ t 4 = .ptr b4 0 ∧ t 5 = .int .i64 i ∧ t 6 = intsA (row i) ∧ hq = HH) ?_ ?_
      · skip
        refine awp_loop_g (γ := MQ) (fun q t h => (MInv HH (row i) q) ∧ t 0 = .int .i64 m ∧ t 2 = .ptr b2 0 ∧ t 4 = .ptr b4 0 ∧ t 5 = .int .i64 i ∧ t 6 = q.V ∧ t 7 = .int .i64 q.k ∧ h = q.HV) (fun q => 64 - q.k) (⟨0, .nilsl, HH⟩) (turnA_self (by simp [h0, h2, h4, h5]; exact .inl ⟨by show 0 < _; rw [hrl]; omega, none, rfl, by simp, by simp, by simp⟩)) ?_
        rintro q t hx ⟨hq, h0, h2, h4, h5, h6, h7, ex⟩
        rw [ex]
        clear ex
        obtain ⟨k, V, HV⟩ := q
        rcases hq with ⟨hk, o2, hV, hHV, ho5, ho6⟩ | ⟨hk, hV, hHV⟩
        · simp only at h0 h2 h4 h5 h6 h7 hk hV hHV ho5
          subst hV hHV
          rw [hrl] at hk
          have hkI : (k : Int) < 64 := by omega
          have hwk : IntKind.i64.wrap ((k : Int) + 1) = (k : Int) + 1 := wrap_i64 (by omega) (by omega)
          have hcs := hrg i k hk
          have d16 : (k : Int) / 16 = ((k / 16 : Nat) : Int) := rfl
          have d4 : (k : Int) / 4 = ((k / 4 : Nat) : Int) := rfl
          have w16 : IntKind.i64.wrap ((k / 16 : Nat) : Int) = ((k / 16 : Nat) : Int) := wrap_i64 (by omega) (by omega)
          have w4 : IntKind.i64.wrap ((k / 4 : Nat) : Int) = ((k / 4 : Nat) : Int) := wrap_i64 (by omega) (by omega)
          have m4 : Int.tmod ((k / 4 : Nat) : Int) 4 = ((k / 4 % 4 : Nat) : Int) := rfl
          have m1 : Int.tmod (k : Int) 4 = ((k % 4 : Nat) : Int) := rfl
          have cf := r_four1 m i (k / 16) (k / 4 % 4) (k % 4) hm3 hlt (by omega) (by omega) (by omega)
          have hf : fourV m i (k / 16) (k / 4 % 4) (k % 4) = fourT m i k := by rw [← fourV_T m i k hlt hk, Nat.div_div_eq_div_mul]
          rw [hf] at cf
          obtain ⟨A, hA⟩ : ∃ A, A = k / 16 := ⟨_, rfl⟩
          obtain ⟨B, hB⟩ : ∃ B, B = k / 4 := ⟨_, rfl⟩
          obtain ⟨C, hC⟩ : ∃ C, C = k / 4 % 4 := ⟨_, rfl⟩
          obtain ⟨D, hD⟩ : ∃ D, D = k % 4 := ⟨_, rfl⟩
          rw [← hA] at d16 w16 cf
          rw [← hC] at m4 cf
          rw [← hB] at d4 w4 m4
          rw [← hD] at m1 cf
          simp [h0, h2, h4, h5, h6, h7, hk, hkI, d16, d4, w16, w4, m4, m1]
          refine cf.use ?_
          simp [h0, h2, h4, h5, h6, h7]
          intro b1 hb1
          obtain ⟨x1, x4⟩ : ¬ o2 = some b1 ∧ Fresh HH b1 := by simpa using hb1
          simp [h0, h2, h4, h5, h6, h7, x1]
          rw [← List.map_take]
          refine appendA_updO (by omega) (by omega) (fun e => by rw [ho5.1 e]; rfl) (by simp [hrl]; omega) (by simp) (by cases o2 with | none => simp | some b => simp at x1 ho6 ⊢; simp [ho6, x1]; exact fun e => x1 e.symm) fun b' hb' => ?_
          obtain ⟨y1, y2, y5⟩ : ¬ b' = b1 ∧ ¬ b1 = b' ∧ Fresh HH b' := by simpa [x1] using hb'
          simp [h0, h2, h4, h5, h6, h7, y1, y2]
          rw [← List.map_take, ← hcs]
          refine turnA_row1 (HH := HH) (row := row i) (k := k) (b := b') (by rw [hrl]; exact hk) y5 6 (by simp) (Drop.both (Drop.new (Drop.refl _) x4)) (by simp) fun V HV hM => ?_
          exact ⟨⟨k + 1, V, HV⟩, by simp only; omega, hM, by simp [h0, h2, h4, h5, h6, h7, hwk]⟩
        · simp only at h0 h2 h4 h5 h6 h7 hk hV hHV
          rw [hrl] at hk
          subst hV hHV hk
          simp [h0, h2, h4, h5, h6, h7]
      · skip
        intro t hq ⟨h0, h2, h4, h5, h6, ehq⟩
        rw [ehq]
        clear ehq
        simp [h0, h2, h4, h5, h6, hHH, ho2, ho3, n42, n24]
        intro b1 hb1
        simp at hb1
        simp [h0, h2, h4, h5, h6, hHH, ho2, ho3, n42, n24, hb1]
        refine appendA_updO (by omega) (by omega) (fun e => by rw [ho1.1 e]; rfl) (by simp) (by simp) (by cases o with | none => simp | some b => simp at hb1 ho2 ho3 ⊢; simp [ho2, ho3, hb1]; exact ⟨fun e => hb1.1 e.symm, fun e => ho3 e.symm, fun e => ho2 e.symm⟩) fun b' hb' => ?_
        simp [n42, n24, hb1, ho2, ho3] at hb'
        simp [h0, h2, h4, h5, h6, hb', hb1, n42, n24]
        refine turnA_to (((AHeap.empty.upd b2 (.cells [.int .i64 0, .int .i64 0, .nilsl])).upd b4 (.cells [.int .i64 m, .int .i64 4, ownV (some b') (i + 1) 1])).updO (some b') ((List.range (i + 1)).map fun i => intsA (row i))) ?_ ⟨⟨i + 1, some b'⟩, by simp only; omega, by simp only; omega, by simp [hb'], by simp [h0, h2, h4, h5, h6, hwi]⟩
        rw [List.range_succ, List.map_append]
        simp
        exact Drop.both (Drop.new (Drop.refl _) (by simp [hb1]))
    · obtain rfl : i = m := by omega
      simp [h0, h2, h4, h5, ho2, ho3, n42, n24]
      cases o with
      | none => have := ho1.1 rfl; omega
      | some b =>
        refine finA_all 4 ?_
        rw [frz_tup]
        simp only [List.map_cons, List.map_nil, ownV_some, updO_some]
        rw [frz_agg]
        simp only [List.map_cons, List.map_nil]
        rw [frz_osl (by simp)]
        simp [rowsA, Function.comp_def]
        rw [List.take_of_length_le (by simp)]
  · rw [if_neg hin]
    by_cases g1 : m < 3
    · simp [g1]
      intro b2 hb2
      simp [g1]
      exact finA_drop rfl
    · have g2 : 6 < m := by omega
      simp [g1, g2]
      intro b2 hb2
      simp [g1, g2]
      exact finA_drop rfl
end Go.Proofs
