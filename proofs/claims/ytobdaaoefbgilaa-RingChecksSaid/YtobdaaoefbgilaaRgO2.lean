/-
  Ring: Dijkstra's protocol and the one with four colours, of any size.
-/
import Derived.Test.YtobdaaoefbgilaaRgO1
set_option linter.unusedSimpArgs false
set_option linter.unusedVariables false
set_option linter.unusedSectionVars false
namespace Go.Proofs
open Go Go.AH
set_option maxRecDepth 10000
set_option maxHeartbeats 4000000

theorem w_dij1 (c i l o x b : Nat) (hc : 0 < c ∧ c ≤ 6) (hl : l < c) (ho : o < c) (h : AHeap) (hb : Holds h b [.int .i64 c]) :
    ACalls Try.prog 61 [.int .i64 i, .int .i64 l, .int .i64 o, .int .i64 x, .ptr b 0] h fun a h' => a = .int .i64 (if i = 0 ∧ l = o then ((o + 1) % c : Nat) else if 0 < i ∧ ¬ l = o then (l : Nat) else -1) ∧ h' = h := by
  refine acalls_of Try.func61 rfl Try.call61 (by kernel_rfl) (by show _ ≤ (31 : Nat); simp) ?_
  unfold Holds at hb
  by_cases e1 : i = 0
  · subst e1
    by_cases e2 : l = o
    · subst e2
      have hw : IntKind.i64.wrap ((l : Int) + 1) = ((l + 1 : Nat) : Int) := wrap_i64 (by omega) (by omega)
      have hc0 : ¬ c = 0 := by omega
      have hm : Int.tmod ((l + 1 : Nat) : Int) (c : Int) = (((l + 1) % c : Nat) : Int) := rfl
      simp [hb, hc0]
      rw [hw, hm]
      exact finA_self ⟨by simp, rfl⟩
    · have e2I : ¬ (l : Int) = (o : Int) := by omega
      simp [e2, e2I]
      exact finA_self ⟨rfl, rfl⟩
  · have e3 : 0 < i := by omega
    by_cases e2 : l = o
    · subst e2
      simp [e1, e3]
      refine finA_self ⟨by simp, rfl⟩
    · have e2I : ¬ (l : Int) = (o : Int) := by omega
      simp [e1, e2, e2I, e3]
      exact finA_self ⟨rfl, rfl⟩
def noRul : AV := .agg [.int .i64 0, .int .i64 0, .nilsl]
theorem w_Dijkstra (m c : Int) : Pure Try.prog 29 [.int .i64 m, .int .i64 c] (if sizeN m c = 0 then .tup [noRul, .int .i64 1] else .tup [(dijR m.toNat c.toNat).av, .int .i64 0]) := by
  refine pure_of (acalls_of Try.func29 rfl Try.call29 (by kernel_rfl) (by show _ ≤ (15 : Nat); simp) ?_)
  have cs := w_sizeI m c
  simp
  intro b3 hb3
  simp
  intro b4 hb4
  simp at hb4
  simp [hb4]
  refine cs.use ?_
  by_cases h0 : sizeN m c = 0
  · simp [h0, hb4]
    exact finA_drop rfl
  · obtain ⟨m, c, rfl, rfl, h1, h2, h3, h4, h5⟩ := sizeN_ne h0
    simp [h0, hb4]
    have cm := w_made m c ⟨by omega, h2⟩ ⟨by omega, h4⟩ (.fn (.func 61) [] [.ptr b3 0]) rfl (dijT c) (fun h => Holds h b3 [.int .i64 c]) (fun h l ch q hl => q.put (fun e => q.ne (by rw [e]; exact hl))) (fun h q i hi k hk => by
      have hc := Nat.mul_pos (show 0 < c by omega) (show 0 < c by omega)
      have q1 : k / c / c < c := by rw [Nat.div_div_eq_div_mul]; exact Nat.div_lt_of_lt_mul (by rw [Nat.mul_comm (c * c) c, ← Nat.mul_assoc]; exact hk)
      have := w_dij1 c i (k / c / c) (k / c % c) (k % c) b3 ⟨by omega, h4⟩ q1 (Nat.mod_lt _ (by omega)) h q
      simp only [ACallV_func]
      exact this) ((AHeap.empty.upd b3 (.cells [.int .i64 c])).upd b4 (.cells [.int .i64 0, .int .i64 0, .nilsl])) (Holds.here.put hb4.2)
    refine ACalls.mono cm ?_
    rintro _ _ ⟨rfl, rfl⟩
    simp [hb4]
    exact finA_drop rfl
theorem w_up (m i x b : Nat) (hm : 3 ≤ m ∧ m ≤ 6) (hi : i < 10) (h : AHeap) (hb : Holds h b [.int .i64 (m - 1 : Nat)]) :
    ACalls Try.prog 64 [.int .i64 i, .int .i64 x, .ptr b 0] h fun a h' => a = .int .i64 (hupF m i x : Nat) ∧ h' = h := by
  refine acalls_of Try.func64 rfl Try.call64 (by kernel_rfl) (by show _ ≤ (14 : Nat); simp) ?_
  unfold Holds at hb
  by_cases e1 : i = 0
  · subst e1
    simp
    refine finA_self ⟨?_, rfl⟩
    unfold hupF
    rw [if_neg (by omega)]; rfl
  · by_cases e2 : i = m - 1
    · subst e2
      simp [hb, e1]
      refine finA_self ⟨?_, rfl⟩
      unfold hupF
      rw [if_pos rfl]; rfl
    · have e2I : ¬ (i : Int) = ((m - 1 : Nat) : Int) := by omega
      simp [hb, e1, e2, e2I]
      refine finA_self ⟨?_, rfl⟩
      unfold hupF
      rw [if_neg e2, if_neg e1]
      rfl
/-- What a machine takes in the protocol with four colours. -/
def fourV (m i l o s : Nat) : Int :=
  if i = 0 then (if s / 2 = o / 2 ∧ hupF m 1 s = 0 then (2 * (1 - (o / 2 : Nat)) + 1 : Int) else -1)
  else if i = m - 1 then (if ¬ l / 2 = o / 2 then (2 * (l / 2) : Nat) else -1)
  else if ¬ l / 2 = o / 2 then (2 * (l / 2) + 1 : Nat)
  else if hupF m i o = 1 ∧ s / 2 = o / 2 ∧ hupF m (i + 1) s = 0 then (2 * (o / 2) : Nat) else -1
theorem w_four2 (m i l o s b4 b5 : Nat) (hm : 3 ≤ m ∧ m ≤ 6) (hi : i < m) (hl : l < 4) (ho : o < 4) (hs : s < 4) (h : AHeap) (hb4 : Holds h b4 [.int .i64 (m - 1 : Nat)]) (hb5 : Holds h b5 [.fn (.func 64) [] [.ptr b4 0]]) :
    ACalls Try.prog 65 [.int .i64 i, .int .i64 l, .int .i64 o, .int .i64 s, .ptr b5 0, .ptr b4 0] h fun a h' => a = .int .i64 (fourV m i l o s) ∧ h' = h := by
  refine acalls_of Try.func65 rfl Try.call65 (by kernel_rfl) (by show _ ≤ (73 : Nat); simp) ?_
  have x4 : ∀ off, cellsAt h b4 off = some (([.int .i64 (m - 1 : Nat)] : List AV).drop off) := hb4
  have x5 : ∀ off, cellsAt h b5 off = some (([.fn (.func 64) [] [.ptr b4 0]] : List AV).drop off) := hb5
  have cu := fun i (hi : i < 10) x => w_up m i x b4 hm hi h hb4
  have d1 : ∀ x : Nat, Int.tdiv (x : Int) 2 = ((x / 2 : Nat) : Int) := fun x => rfl
  have e0 : ∀ x : Nat, (x : Int) / 2 = ((x / 2 : Nat) : Int) := fun x => rfl
  have wl : ∀ x : Nat, x < 4 → IntKind.i64.wrap (((x / 2 : Nat)) : Int) = ((x / 2 : Nat) : Int) := fun x hx => wrap_i64 (by omega) (by omega)
  obtain ⟨X, hX⟩ : ∃ X, X = o / 2 := ⟨_, rfl⟩
  obtain ⟨Y, hY⟩ : ∃ Y, Y = s / 2 := ⟨_, rfl⟩
  obtain ⟨Z, hZ⟩ : ∃ Z, Z = l / 2 := ⟨_, rfl⟩
  have wo := wl o ho
  have ws := wl s hs
  have wz := wl l hl
  have eo := e0 o
  have es := e0 s
  have el := e0 l
  unfold fourV
  rw [← hX] at wo eo
  rw [← hY] at ws es
  rw [← hZ] at wz el
  rw [← hX, ← hY, ← hZ]
  obtain ⟨L, hL⟩ : ∃ L, L = m - 1 := ⟨_, rfl⟩
  rw [← hL] at x4 ⊢
  by_cases i0 : i = 0
  · subst i0
    by_cases e1 : Y = X
    · have u1 := cu 1 (by omega) s
      simp [eo, wo, es, ws, e1, x5]
      refine u1.use ?_
      by_cases e2 : hupF m 1 s = 0
      · have w1 : IntKind.i64.wrap (1 - (X : Int)) = 1 - (X : Int) := wrap_i64 (by omega) (by omega)
        have w2 : IntKind.i64.wrap (2 * (1 - (X : Int))) = 2 * (1 - (X : Int)) := wrap_i64 (by omega) (by omega)
        have w3 : IntKind.i64.wrap (2 * (1 - (X : Int)) + 1) = 2 * (1 - (X : Int)) + 1 := wrap_i64 (by omega) (by omega)
        simp [e2, w1, w2, w3]
        exact finA_self ⟨by simp, rfl⟩
      · simp [e2]
        exact finA_self ⟨by simp, rfl⟩
    · have e1I : ¬ (Y : Int) = (X : Int) := by omega
      simp [eo, wo, es, ws, e1, e1I]
      exact finA_self ⟨by simp, rfl⟩
  · by_cases i1 : i = L
    · subst i1
      by_cases e1 : Z = X
      · simp [i0, eo, wo, el, wz, e1, x4]
        exact finA_self ⟨by simp [i0], rfl⟩
      · have e1I : ¬ (Z : Int) = (X : Int) := by omega
        have w2 : IntKind.i64.wrap (2 * (Z : Int)) = 2 * (Z : Int) := wrap_i64 (by omega) (by omega)
        simp [i0, eo, wo, el, wz, e1, e1I, x4, w2]
        exact finA_self ⟨by simp, rfl⟩
    · have i1I : ¬ (i : Int) = (L : Int) := by omega
      by_cases e1 : Z = X
      · have u1 := cu i (by omega) o
        have u2 := cu (i + 1) (by omega) s
        have wi : IntKind.i64.wrap ((i : Int) + 1) = ((i + 1 : Nat) : Int) := wrap_i64 (by omega) (by omega)
        have w2 : IntKind.i64.wrap (2 * (X : Int)) = 2 * (X : Int) := wrap_i64 (by omega) (by omega)
        simp [i0, i1I, i1, eo, wo, el, wz, e1, x4, x5]
        refine u1.use ?_
        by_cases e2 : hupF m i o = 1
        · have e2I : ((hupF m i o : Nat) : Int) = 1 := by omega
          by_cases e3 : Y = X
          · rw [e3] at es ws
            simp [e2, e2I, es, ws, e3, x5]
            rw [wi]
            refine u2.use ?_
            by_cases e4 : hupF m (i + 1) s = 0
            · simp [e4, w2]
              exact finA_self ⟨by simp [e2, e3], rfl⟩
            · simp [e4]
              exact finA_self ⟨by simp [e2, e3], rfl⟩
          · have e3I : ¬ (Y : Int) = (X : Int) := by omega
            simp [e2, e2I, es, ws, e3, e3I]
            exact finA_self ⟨by simp [e3], rfl⟩
        · have e2I : ¬ ((hupF m i o : Nat) : Int) = 1 := by omega
          simp [e2, e2I]
          exact finA_self ⟨by simp [e2], rfl⟩
      · have e1I : ¬ (Z : Int) = (X : Int) := by omega
        have w2 : IntKind.i64.wrap (2 * (Z : Int)) = 2 * (Z : Int) := wrap_i64 (by omega) (by omega)
        have w3 : IntKind.i64.wrap (2 * (Z : Int) + 1) = 2 * (Z : Int) + 1 := wrap_i64 (by omega) (by omega)
        simp [i0, i1I, i1, eo, wo, el, wz, e1, e1I, x4, w2, w3]
        exact finA_self ⟨by simp, rfl⟩
theorem fourV_T (m i k : Nat) (hi : i < m) (hk : k < 64) : fourV m i (k / 4 / 4) (k / 4 % 4) (k % 4) = fourT m i k := by
  unfold fourV fourT
  rw [show k / 4 / 4 = k / 16 from by rw [Nat.div_div_eq_div_mul]]
  by_cases i0 : i = 0
  · simp [i0]
  · by_cases i1 : i = m - 1
    · simp [i1]
    · rw [if_neg i0, if_neg i1, if_neg i0, if_neg i1, Nat.mod_eq_of_lt (show i + 1 < m by omega)]
theorem w_Four (m : Int) : Pure Try.prog 32 [.int .i64 m] (if 3 ≤ m ∧ m ≤ 6 then .tup [(fourR m.toNat).av, .int .i64 0] else .tup [noRul, .int .i64 1]) := by
  refine pure_of (acalls_of Try.func32 rfl Try.call32 (by kernel_rfl) (by show _ ≤ (19 : Nat); simp) ?_)
  by_cases hin : 3 ≤ m ∧ m ≤ 6
  · rw [if_pos hin]
    obtain ⟨m, rfl⟩ : ∃ a : Nat, m = a := ⟨m.toNat, by omega⟩
    have g1 : ¬ (m : Int) < 3 := by omega
    have g2 : ¬ 6 < (m : Int) := by omega
    have wm : IntKind.i64.wrap ((m : Int) - 1) = ((m - 1 : Nat) : Int) := by rw [show (m : Int) - 1 = ((m - 1 : Nat) : Int) by omega]; exact wrap_i64 (by omega) (by omega)
    simp [g1, g2]
    intro b2 hb2
    simp [g1, g2, wm]
    intro b4 hb4
    simp at hb4
    simp [hb4]
    intro b5 hb5
    simp at hb5
    simp [hb4, hb5]
    have cm := w_made m 4 ⟨by omega, by omega⟩ ⟨by omega, by omega⟩ (.fn (.func 65) [] [.ptr b5 0, .ptr b4 0]) rfl (fourT m) (fun h => Holds h b4 [.int .i64 (m - 1 : Nat)] ∧ Holds h b5 [.fn (.func 64) [] [.ptr b4 0]])
      (fun h l ch q hl => ⟨q.1.put (fun e => q.1.ne (by rw [e]; exact hl)), q.2.put (fun e => q.2.ne (by rw [e]; exact hl))⟩) (fun h q i hi k hk => by
      have q1 : k / 4 / 4 < 4 := by omega
      have := w_four2 m i (k / 4 / 4) (k / 4 % 4) (k % 4) b4 b5 (by omega) hi q1 (Nat.mod_lt _ (by omega)) (Nat.mod_lt _ (by omega)) h q.1 q.2
      rw [fourV_T m i k hi (by omega)] at this
      simp only [ACallV_func]
      exact this) (((AHeap.empty.upd b2 (.cells [.int .i64 0, .int .i64 0, .nilsl])).upd b4 (.cells [.int .i64 (m - 1 : Nat)])).upd b5 (.cells [.fn (.func 64) [] [.ptr b4 0]])) ⟨Holds.here.put (by simp [hb5]), Holds.here⟩
    refine ACalls.mono cm ?_
    rintro _ _ ⟨rfl, rfl⟩
    simp [hb4, hb5]
    exact finA_drop rfl
  · rw [if_neg hin]
    by_cases g1 : m < 3
    · simp [g1]
      intro b2 hb2
      simp [g1]
      exact finA_drop rfl
    · have g2 : 6 < m := by omega
      simp [g1, g2]
      intro b2 hb2
      simp [g1, g2]
      exact finA_drop rfl
end Go.Proofs
