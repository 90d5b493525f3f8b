/-
  Ring: the reference's protocols, of any size.
-/
import Derived.Test.YtobdaaoefbgilaaRgO2
set_option linter.unusedSimpArgs false
set_option linter.unusedVariables false
set_option linter.unusedSectionVars false
namespace Go.Proofs
open Go Go.AH
set_option maxRecDepth 10000
set_option maxHeartbeats 4000000

theorem quo1 {k c : Nat} (hk : k ≤ 1000000) : IntKind.i64.wrap ((k : Int) / (c : Int)) = ((k / c : Nat) : Int) := by
  rw [← Int.natCast_ediv]
  have := Nat.div_le_self k c
  obtain ⟨y, hy⟩ : ∃ y, y = k / c := ⟨_, rfl⟩
  rw [← hy] at this ⊢
  exact wrap_i64 (by omega) (by omega)
theorem quo2 {k c : Nat} (hk : k ≤ 1000000) : IntKind.i64.wrap (Int.tdiv ((k / c : Nat) : Int) (c : Int)) = ((k / c / c : Nat) : Int) := by
  have h1 := Nat.div_le_self k c
  have h2 := Nat.div_le_self (k / c) c
  rw [show Int.tdiv ((k / c : Nat) : Int) (c : Int) = ((k / c / c : Nat) : Int) from rfl]
  obtain ⟨y, hy⟩ : ∃ y, y = k / c / c := ⟨_, rfl⟩
  rw [← hy] at h2 ⊢
  exact wrap_i64 (by omega) (by omega)
theorem rowT_get {N i k : Nat} {T : Nat → Nat → Int} (hk : k < N) : (((List.range N).map (T i)).take (k + 1)).map (AV.int .i64) = (((List.range N).map (T i)).take k).map (AV.int .i64) ++ [.int .i64 (T i k)] := by
  rw [List.take_succ_eq_append_getElem (by simpa using hk)]
  simp

theorem r_Dijkstra (m c : Int) : Pure Try.prog 31 [.int .i64 m, .int .i64 c] (if sizeN m c = 0 then .tup [noRul, .bool false] else .tup [(dijR m.toNat c.toNat).av, .bool true]) := by
  refine pure_of (acalls_of Try.func31 rfl Try.call31 (by kernel_rfl) (by show _ ≤ (77 : Nat); simp) ?_)
  have cs := r_SizeI m c
  simp
  intro b4 hb4
  simp
  refine cs.use ?_
  by_cases h0 : sizeN m c = 0
  · simp [h0]
    exact finA_drop rfl
  · obtain ⟨m, c, rfl, rfl, hm2, hm6, hc2, hc6, hz⟩ := sizeN_ne h0
    have hc : 0 < c := by omega
    have hcc := ccc_le hc6
    have hcp : 0 < c * c * c := Nat.mul_pos (Nat.mul_pos hc hc) hc
    have hw2 : IntKind.i64.wrap ((c : Int) * (c : Int) * (c : Int)) = ((c * c * c : Nat) : Int) := by rw [← Int.natCast_mul, ← Int.natCast_mul]; exact wrap_i64 (by omega) (by omega)
    have hw1 : IntKind.i64.wrap ((c : Int) * (c : Int)) = ((c * c : Nat) : Int) := by
      rw [← Int.natCast_mul]
      have : c * c ≤ c * c * c := Nat.le_mul_of_pos_right _ hc
      exact wrap_i64 (by omega) (by omega)
    obtain ⟨N, hN⟩ : ∃ N, N = c * c * c := ⟨_, rfl⟩
    have hrow0 : (dijR m c).av = .agg [.int .i64 m, .int .i64 c, rowsA ((List.range m).map fun i => (List.range N).map (dijT c i))] := by rw [hN]; rfl
    obtain ⟨row, hrow⟩ : ∃ row : Nat → List Int, row = fun i => (List.range N).map (dijT c i) := ⟨_, rfl⟩
    have hrl : ∀ i, (row i).length = N := by intro i; rw [hrow]; simp
    have hrg : ∀ i k, k < N → ((row i).take (k + 1)).map (AV.int .i64) = ((row i).take k).map (AV.int .i64) ++ [.int .i64 (dijT c i k)] := by intro i k hk; rw [hrow]; exact rowT_get hk
    rw [show ((List.range m).map fun i => (List.range N).map (dijT c i)) = (List.range m).map row from by rw [hrow]] at hrow0
    rw [← hN] at hcc hcp hw2
    have hkc : ∀ k, k < N → k / c / c < c := fun k hk => by rw [Nat.div_div_eq_div_mul]; exact Nat.div_lt_of_lt_mul (by rw [Nat.mul_comm (c * c) c, ← Nat.mul_assoc, ← hN]; exact hk)
    simp [h0, hrow0]
    intro b6 hb6
    obtain ⟨n64, n46⟩ : ¬ b6 = b4 ∧ ¬ b4 = b6 := by simpa using hb6
    simp [n64, n46, splice]
    refine awp_loop_g (γ := At) (fun q t h => (q.i ≤ m) ∧ ((q.o = none ↔ q.i = 0) ∧ ¬ q.o = some b4 ∧ ¬ q.o = some b6) ∧ t 0 = .int .i64 m ∧ t 1 = .int .i64 c ∧ t 4 = .ptr b4 0 ∧ t 6 = .ptr b6 0 ∧ t 7 = .int .i64 q.i ∧ h = ((AHeap.empty.upd b4 (.cells [.int .i64 0, .int .i64 0, .nilsl])).upd b6 (.cells [.int .i64 m, .int .i64 c, ownV q.o q.i 1])).updO q.o ((List.range q.i).map fun i => intsA (row i))) (fun q => m - q.i) (⟨0, none⟩) (turnA_self (by simp)) ?_
    rintro q t hx ⟨hi, ho, h0, h1, h4, h6, h7, ex⟩
    rw [ex]
    clear ex
    obtain ⟨i, o⟩ := q
    simp only at h0 h1 h4 h6 h7 hi ho
    obtain ⟨ho1, ho2, ho3⟩ := ho
    by_cases hlt : i < m
    · have hwi : IntKind.i64.wrap ((i : Int) + 1) = (i : Int) + 1 := wrap_i64 (by omega) (by omega)
      obtain ⟨HH, hHH⟩ : ∃ HH, HH = ((AHeap.empty.upd b4 (.cells [.int .i64 0, .int .i64 0, .nilsl])).upd b6 (.cells [.int .i64 m, .int .i64 c, ownV o i 1])).updO o ((List.range i).map fun i => intsA (row i)) := ⟨_, rfl⟩
      simp [h0, h1, h4, h6, h7, hlt]
      rw [← hHH]
      refine loop_cut (fun t hq => t 0 = .int .i64 m ∧ t 1 = .int .i64 c ∧ t 4 = .ptr b4 0 ∧ t 6 = .ptr b6 0 ∧ t 7 = .int .i64 i ∧ t 8 = intsA (row i) ∧ hq = HH) ?_ ?_
      · skip
        refine awp_loop_g (γ := MQ) (fun q t h => (MInv HH (row i) q) ∧ t 0 = .int .i64 m ∧ t 1 = .int .i64 c ∧ t 4 = .ptr b4 0 ∧ t 6 = .ptr b6 0 ∧ t 7 = .int .i64 i ∧ t 8 = q.V ∧ t 9 = .int .i64 q.k ∧ h = q.HV) (fun q => N - q.k) (⟨0, .nilsl, HH⟩) (turnA_self (by simp [h0, h1, h4, h6, h7]; exact .inl ⟨by rw [hrl]; exact hcp, none, rfl, by simp, by simp, by simp⟩)) ?_
        rintro q t hx ⟨hq, h0, h1, h4, h6, h7, h8, h9, ex⟩
        rw [ex]
        clear ex
        obtain ⟨k, V, HV⟩ := q
        rcases hq with ⟨hk, o2, hV, hHV, ho5, ho6⟩ | ⟨hk, hV, hHV⟩
        · simp only at h0 h1 h4 h6 h7 h8 h9 hk hV hHV ho5
          subst hV hHV
          rw [hrl] at hk
          have hkI : (k : Int) < (N : Int) := by omega
          have hwk : IntKind.i64.wrap ((k : Int) + 1) = (k : Int) + 1 := wrap_i64 (by omega) (by omega)
          have hc0' : ¬ c = 0 := by omega
          have d1 := quo1 (k := k) (c := c) (by omega)
          have d2 := quo2 (k := k) (c := c) (by omega)
          have d3 : Int.tmod ((k / c : Nat) : Int) (c : Int) = ((k / c % c : Nat) : Int) := rfl
          have hcs := hrg i k hk
          have hlo := hkc k hk
          have hoo : k / c % c < c := Nat.mod_lt _ hc
          have hT : dijT c i k = if i = 0 ∧ k / c / c = k / c % c then (((k / c % c + 1) % c : Nat) : Int) else if 0 < i ∧ k / c / c ≠ k / c % c then ((k / c / c : Nat) : Int) else -1 := rfl
          obtain ⟨lN, hlN⟩ : ∃ x, x = k / c / c := ⟨_, rfl⟩
          obtain ⟨oN, hoN⟩ : ∃ x, x = k / c % c := ⟨_, rfl⟩
          rw [← hlN] at d2 hT hlo
          rw [← hoN] at d3 hT hoo
          simp [h0, h1, h4, h6, h7, h8, h9, hw1, hw2, hk, hkI]
          refine awp_draw_text (by kernel_rfl) [] [] (by kernel_rfl) (by kernel_rfl) (by simp) ?_
          simp [h0, h1, h4, h6, h7, h8, h9, hc0']
          rw [d1, d2, d3]
          by_cases e1 : i = 0
          · by_cases e2 : lN = oN
            · rw [if_pos ⟨e1, e2⟩] at hT
              rw [hT] at hcs
              subst e1 e2
              have hw : IntKind.i64.wrap ((lN : Int) + 1) = ((lN + 1 : Nat) : Int) := wrap_i64 (by omega) (by omega)
              have hm : Int.tmod ((lN + 1 : Nat) : Int) (c : Int) = (((lN + 1) % c : Nat) : Int) := rfl
              simp [h0, h1, h4, h6, h7, h8, h9, hc0']
              rw [hw, hm]
              obtain ⟨X, hX⟩ : ∃ X : Int, X = (((lN + 1) % c : Nat) : Int) := ⟨_, rfl⟩
              rw [← hX] at hcs ⊢
              simp [h0, h1, h4, h6, h7, h8, h9]
              intro b1 hb1
              obtain ⟨x1, x4⟩ : ¬ o2 = some b1 ∧ Fresh HH b1 := by simpa using hb1
              simp [h0, h1, h4, h6, h7, h8, h9, x1]
              rw [← List.map_take]
              refine appendA_updO (by omega) (by omega) (fun e => by rw [ho5.1 e]; rfl) (by simp [hrl]; omega) (by simp) (by cases o2 with | none => simp | some b => simp at x1 ho6 ⊢; simp [ho6, x1]; exact fun e => x1 e.symm) fun b' hb' => ?_
              obtain ⟨y1, y2, y5⟩ : ¬ b' = b1 ∧ ¬ b1 = b' ∧ Fresh HH b' := by simpa [x1] using hb'
              simp [h0, h1, h4, h6, h7, h8, h9, y1, y2]
              rw [← List.map_take, ← hcs]
              refine turnA_row1 (HH := HH) (row := row 0) (k := k) (b := b') (by rw [hrl]; exact hk) y5 8 (by simp) (Drop.both (Drop.new (Drop.refl _) x4)) (by simp) fun V HV hM => ?_
              exact ⟨⟨k + 1, V, HV⟩, by simp only; omega, hM, by simp [h0, h1, h4, h6, h7, h8, h9, hwk]⟩
            · have e2I : ¬ (lN : Int) = (oN : Int) := by omega
              rw [if_neg (fun q => e2 q.2), if_neg (fun q => absurd q.1 (by omega))] at hT
              rw [hT] at hcs
              subst e1
              simp [h0, h1, h4, h6, h7, h8, h9, e2, e2I]
              intro b1 hb1
              obtain ⟨x1, x4⟩ : ¬ o2 = some b1 ∧ Fresh HH b1 := by simpa using hb1
              simp [h0, h1, h4, h6, h7, h8, h9, x1]
              rw [← List.map_take]
              refine appendA_updO (by omega) (by omega) (fun e => by rw [ho5.1 e]; rfl) (by simp [hrl]; omega) (by simp) (by cases o2 with | none => simp | some b => simp at x1 ho6 ⊢; simp [ho6, x1]; exact fun e => x1 e.symm) fun b' hb' => ?_
              obtain ⟨y1, y2, y5⟩ : ¬ b' = b1 ∧ ¬ b1 = b' ∧ Fresh HH b' := by simpa [x1] using hb'
              simp [h0, h1, h4, h6, h7, h8, h9, y1, y2]
              rw [← List.map_take, ← hcs]
              refine turnA_row1 (HH := HH) (row := row 0) (k := k) (b := b') (by rw [hrl]; exact hk) y5 8 (by simp) (Drop.both (Drop.new (Drop.refl _) x4)) (by simp) fun V HV hM => ?_
              exact ⟨⟨k + 1, V, HV⟩, by simp only; omega, hM, by simp [h0, h1, h4, h6, h7, h8, h9, hwk]⟩
          · have e1I : ¬ (i : Int) = 0 := by omega
            have e3 : 0 < i := by omega
            have e3I : 0 < (i : Int) := by omega
            by_cases e2 : lN = oN
            · rw [if_neg (fun q => e1 q.1), if_neg (fun q => q.2 e2)] at hT
              rw [hT] at hcs
              subst e2
              simp [h0, h1, h4, h6, h7, h8, h9, e1, e3]
              intro b1 hb1
              obtain ⟨x1, x4⟩ : ¬ o2 = some b1 ∧ Fresh HH b1 := by simpa using hb1
              simp [h0, h1, h4, h6, h7, h8, h9, x1]
              rw [← List.map_take]
              refine appendA_updO (by omega) (by omega) (fun e => by rw [ho5.1 e]; rfl) (by simp [hrl]; omega) (by simp) (by cases o2 with | none => simp | some b => simp at x1 ho6 ⊢; simp [ho6, x1]; exact fun e => x1 e.symm) fun b' hb' => ?_
              obtain ⟨y1, y2, y5⟩ : ¬ b' = b1 ∧ ¬ b1 = b' ∧ Fresh HH b' := by simpa [x1] using hb'
              simp [h0, h1, h4, h6, h7, h8, h9, y1, y2]
              rw [← List.map_take, ← hcs]
              refine turnA_row1 (HH := HH) (row := row i) (k := k) (b := b') (by rw [hrl]; exact hk) y5 8 (by simp) (Drop.both (Drop.new (Drop.refl _) x4)) (by simp) fun V HV hM => ?_
              exact ⟨⟨k + 1, V, HV⟩, by simp only; omega, hM, by simp [h0, h1, h4, h6, h7, h8, h9, hwk]⟩
            · have e2I : ¬ (lN : Int) = (oN : Int) := by omega
              rw [if_neg (fun q => e1 q.1), if_pos ⟨e3, e2⟩] at hT
              rw [hT] at hcs
              simp [h0, h1, h4, h6, h7, h8, h9, e1, e2, e2I, e3]
              intro b1 hb1
              obtain ⟨x1, x4⟩ : ¬ o2 = some b1 ∧ Fresh HH b1 := by simpa using hb1
              simp [h0, h1, h4, h6, h7, h8, h9, x1]
              rw [← List.map_take]
              refine appendA_updO (by omega) (by omega) (fun e => by rw [ho5.1 e]; rfl) (by simp [hrl]; omega) (by simp) (by cases o2 with | none => simp | some b => simp at x1 ho6 ⊢; simp [ho6, x1]; exact fun e => x1 e.symm) fun b' hb' => ?_
              obtain ⟨y1, y2, y5⟩ : ¬ b' = b1 ∧ ¬ b1 = b' ∧ Fresh HH b' := by simpa [x1] using hb'
              simp [h0, h1, h4, h6, h7, h8, h9, y1, y2]
              rw [← List.map_take, ← hcs]
              refine turnA_row1 (HH := HH) (row := row i) (k := k) (b := b') (by rw [hrl]; exact hk) y5 8 (by simp) (Drop.both (Drop.new (Drop.refl _) x4)) (by simp) fun V HV hM => ?_
              exact ⟨⟨k + 1, V, HV⟩, by simp only; omega, hM, by simp [h0, h1, h4, h6, h7, h8, h9, hwk]⟩
        · simp only at h0 h1 h4 h6 h7 h8 h9 hk hV hHV
          rw [hrl] at hk
          subst hV hHV hk
          simp [h0, h1, h4, h6, h7, h8, h9, hw1, hw2]
      · skip
        intro t hq ⟨h0, h1, h4, h6, h7, h8, ehq⟩
        rw [ehq]
        clear ehq
        simp [h0, h1, h4, h6, h7, h8, hHH, ho2, ho3, n64, n46]
        intro b1 hb1
        simp at hb1
        simp [h0, h1, h4, h6, h7, h8, hHH, ho2, ho3, n64, n46, hb1]
        refine appendA_updO (by omega) (by omega) (fun e => by rw [ho1.1 e]; rfl) (by simp) (by simp) (by cases o with | none => simp | some b => simp at hb1 ho2 ho3 ⊢; simp [ho2, ho3, hb1]; exact ⟨fun e => hb1.1 e.symm, fun e => ho3 e.symm, fun e => ho2 e.symm⟩) fun b' hb' => ?_
        simp [n64, n46, hb1, ho2, ho3] at hb'
        simp [h0, h1, h4, h6, h7, h8, hb', hb1, n64, n46]
        refine turnA_to (((AHeap.empty.upd b4 (.cells [.int .i64 0, .int .i64 0, .nilsl])).upd b6 (.cells [.int .i64 m, .int .i64 c, ownV (some b') (i + 1) 1])).updO (some b') ((List.range (i + 1)).map fun i => intsA (row i))) ?_ ⟨⟨i + 1, some b'⟩, by simp only; omega, by simp only; omega, by simp [hb'], by simp [h0, h1, h4, h6, h7, h8, hwi]⟩
        rw [List.range_succ, List.map_append]
        simp
        exact Drop.both (Drop.new (Drop.refl _) (by simp [hb1]))
    · obtain rfl : i = m := by omega
      simp [h0, h1, h4, h6, h7, ho2, ho3, n64, n46]
      cases o with
      | none => have := ho1.1 rfl; omega
      | some b =>
        refine finA_all 4 ?_
        rw [frz_tup]
        simp only [List.map_cons, List.map_nil, ownV_some, updO_some]
        rw [frz_agg]
        simp only [List.map_cons, List.map_nil]
        rw [frz_osl (by simp)]
        simp [rowsA, Function.comp_def]
        rw [List.take_of_length_le (by simp)]
end Go.Proofs
