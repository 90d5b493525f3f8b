/-
  Pair: an offer without a person and a post.
-/
import Derived.Test.YtkdhgablioljnaaPbL
set_option linter.unusedSimpArgs false
set_option linter.unusedVariables false
set_option linter.unusedSectionVars false
namespace Go.Proofs
open Go Go.AH
set_option maxRecDepth 10000
set_option maxHeartbeats 8000000

theorem w_Clone64 (r : List Int) (hr : r ≠ []) (hl : r.length ≤ 1000000) (H : AHeap) : ACalls Try.prog 82 [.sl r.length (intC r)] H fun x h' => ∃ b, Fresh H b ∧ x = .osl b 0 r.length 1 ∧ h' = H.upd b (.cells (intC r)) := by
  refine acalls_of Try.func82 rfl Try.call82 (by kernel_rfl) (by show _ ≤ (8 : Nat); simp) ?_
  cases r with
  | nil => exact absurd rfl hr
  | cons y r' =>
    obtain ⟨m, hm⟩ : ∃ m, m = (y :: r').length := ⟨_, rfl⟩
    have hpos : 0 < m := by rw [hm]; simp
    have hn0 : ¬ m = 0 := by omega
    have hc : intC (y :: r') = .int .i64 y :: intC r' := rfl
    have hl2 : (intC r').length + 1 = m := by rw [hm]; simp
    rw [← hm] at hl ⊢
    rw [hc]
    obtain ⟨X, hX⟩ : ∃ X, X = intC r' := ⟨_, rfl⟩
    rw [← hX] at hl2 ⊢
    simp [hpos, hn0]
    intro b1 hb1
    have hd : H.del b1 = H := by
      funext z
      by_cases e : z = b1
      · subst e; rw [AHeap.del_same]; exact hb1.symm
      · exact AHeap.del_ne e
    have hx1 : min m (X.length + 1) = m := by omega
    simp [hd, hl2, hx1]
    refine ⟨by omega, fun b hb => ?_⟩
    simp
    exact finA_self ⟨b, hb, rfl, rfl⟩
/-- The rows behind the first one, each without a post. -/
def wo (C : List (List Int)) (j : Nat) : List (List Int) := (C.drop 1).map fun r => r.eraseIdx j
theorem wo_ok {C : List (List Int)} {n j : Nat} (O : OffOk C (n + 1)) (hn : 1 ≤ n) (hj : j < n + 1) : OffOk (wo C j) n := by
  refine ⟨by simp [wo, O.len], ⟨hn, by have := O.n1.2; omega⟩, fun r hr => ?_, fun r hr x hx => ?_⟩
  · unfold wo at hr
    obtain ⟨r', h, rfl⟩ := List.mem_map.1 hr
    have := O.rows r' (List.mem_of_mem_drop h)
    rw [List.length_eraseIdx_of_lt (by omega)]; omega
  · unfold wo at hr
    obtain ⟨r', h, rfl⟩ := List.mem_map.1 hr
    exact O.sm r' (List.mem_of_mem_drop h) x (List.mem_of_mem_eraseIdx hx)
theorem delL_row {r : List Int} {j : Nat} (hj : j < r.length) : (delL (intC r) j (j + 1)).take (r.length - 1) = intC (r.eraseIdx j) := by
  unfold delL
  have e : (intC r).take j ++ (intC r).drop (j + 1) = intC (r.eraseIdx j) := by
    rw [List.eraseIdx_eq_take_drop_succ]
    simp [intC, List.map_take, List.map_drop]
  rw [e, List.take_append_of_le_length (by simp [List.length_eraseIdx_of_lt hj]), List.take_of_length_le (by simp [List.length_eraseIdx_of_lt hj])]
theorem w_without (C : List (List Int)) (n : Nat) (O : OffOk C n) (j : Nat) (hj : j < n) : Pure Try.prog 56 [.sl n (partsC C), .int .i64 j] (partsL (wo C j)) := by
  refine pure_of (acalls_of Try.func56 rfl Try.call56 (by kernel_rfl) (by show _ ≤ (26 : Nat); simp) ?_)
  have n1 := O.n1
  have hpl : (partsC C).length = n := by simp [partsC, O.len]
  obtain ⟨m, hm⟩ : ∃ m, n = m + 1 := ⟨n - 1, by omega⟩
  have hn1I : (1 : Int) ≤ (n : Int) := by omega
  have hnI : (n : Int) - 1 = (m : Int) := by omega
  have hjI : IntKind.i64.wrap ((j : Int) + 1) = ((j + 1 : Nat) : Int) := by rw [wrap_i64 (by omega) (by omega)]; omega
  obtain ⟨D, hD⟩ : ∃ D, D = C.drop 1 := ⟨_, rfl⟩
  have hDl : D.length = m := by rw [hD, List.length_drop, O.len]; omega
  have hDr : ∀ r ∈ D, r.length = n := fun r hr => O.rows r (List.mem_of_mem_drop (hD ▸ hr))
  have hDp : (partsC D).length = m := by simp [partsC, hDl]
  have ht : List.take (n - 1) (partsC C).tail = partsC D := by
    have : (partsC C).tail = partsC D := by rw [hD]; unfold partsC; rw [List.map_drop, List.drop_one]
    rw [this]
    exact List.take_of_length_le (by omega)
  have hnm : n - 1 = m := by omega
  obtain ⟨off, hoff⟩ : ∃ off : Nat → List (List Int), off = fun i => (D.take i).map fun r => r.eraseIdx j := ⟨_, rfl⟩
  have off0 : off 0 = [] := by rw [hoff]; rfl
  have offl : ∀ i, i ≤ m → (off i).length = i := fun i hi => by rw [hoff]; simp; omega
  have offn : off m = wo C j := by rw [hoff]; unfold wo; simp only; rw [← hD, List.take_of_length_le (by omega)]
  simp [hpl, hn1I, ht]
  rw [hnm]
  refine awp_loop_g (γ := At) (fun z t h => (z.i ≤ m) ∧ (z.o = none ↔ z.i = 0) ∧ t 1 = .int .i64 j ∧ t 4 = .nilsl ∧ t 5 = ownV z.o z.i 1 ∧ t 9 = .sl m (partsC D) ∧ t 10 = .int .i64 m ∧ t 11 = .int .i64 z.i ∧ h = AHeap.empty.updO z.o (partsC (off z.i))) (fun z => m - z.i) (⟨0, none⟩) (turnA_self (by simp [off0, partsC])) ?_
  rintro z t hx ⟨hi, ho, h1, h4, h5, h9, h10, h11, ex⟩
  obtain ⟨i, o⟩ := z
  simp only at h1 h4 h5 h9 h10 h11 hi ho ex
  rw [ex]
  clear ex
  by_cases hlt : i < m
  rotate_left
  · have him : i = m := by omega
    simp [h1, h4, h5, h9, h10, h11, him]
    rw [← offn]
    unfold partsL
    cases o with
    | none =>
      have h0 := ho.1 rfl
      refine finA_drop ?_
      have : off m = [] := by rw [← him, h0, off0]
      rw [if_pos this]; simp
    | some b =>
      have hne : ¬ off m = [] := fun e => by
        have := offl m (Nat.le_refl m)
        rw [e] at this
        have h2 : ¬ some b = none := by simp
        exact h2 (ho.2 (by simp at this; omega))
      refine finA_all 2 ?_
      rw [if_neg hne, ownV_some, frz_osl (by simp)]
      have hpl2 : (partsC (off m)).length = m := by simp [partsC, offl]
      have hol := offl m (Nat.le_refl m)
      simp [hpl2, hol]
      rw [map_frozen partsC_frozen, List.take_of_length_le (by simp [hpl2])]
  have hltI : (i : Int) < (m : Int) := by omega
  have hwi : IntKind.i64.wrap ((i : Int) + 1) = (i : Int) + 1 := wrap_i64 (by omega) (by omega)
  obtain ⟨r, hri⟩ : ∃ r, D[i]? = some r := ⟨_, List.getElem?_eq_getElem (by omega)⟩
  have hat := partsC_row hri
  have hrl := hDr r (List.mem_of_getElem? hri)
  have offs : off (i + 1) = off i ++ [r.eraseIdx j] := by
    obtain ⟨hi', e'⟩ := List.getElem?_eq_some_iff.1 hri
    rw [hoff]; simp only
    rw [List.take_succ_eq_append_getElem hi', e']; simp
  have hrn : r ≠ [] := fun e => by rw [e] at hrl; simp at hrl; omega
  simp [h1, h4, h5, h9, h10, h11, hlt, hltI, hat, hDp]
  refine ACalls.mono (w_Clone64 r hrn (by omega) _) ?_
  rintro _ _ ⟨bc, hbc, rfl, rfl⟩
  simp at hbc
  have hoc : ¬ o = some bc := hbc
  simp [h1, h4, h5, h9, h10, h11, hjI]
  obtain ⟨DL, hDL⟩ : ∃ DL, DL = delL (intC r) j (j + 1) := ⟨_, rfl⟩
  have hDLl : DL.length = n := by rw [hDL, delL_length (by omega) (by simp; omega)]; simp [hrl]
  have hDLt : DL.take m = intC (r.eraseIdx j) := by
    have := delL_row (r := r) (j := j) (by omega)
    rw [hDL, ← hnm, ← hrl]; exact this
  have hcc : ((AHeap.empty.updO o (partsC (off i))).upd bc (.cells (intC r))) bc = some (.cells (intC r)) := AHeap.upd_same
  have hd := del_int64 _ bc 0 r.length j (j + 1) (intC r) hcc (by simp) (fun x hx => by
    have hx := List.mem_of_mem_drop (List.mem_of_mem_take hx)
    obtain ⟨y, _, rfl⟩ := List.mem_map.1 hx
    rfl) (by omega) (by omega)
  have hsp : splice (intC r) 0 (delL (((intC r).drop 0).take r.length) j (j + 1)) = DL := by
    rw [List.drop_zero, List.take_of_length_le (by simp), ← hDL]
    unfold splice
    rw [List.take_zero, List.nil_append, Nat.zero_add, List.drop_of_length_le (by simp [hDLl, hrl]), List.append_nil]
  rw [hsp, show r.length - (j + 1 - j) = m from by omega, show ((j + 1 : Nat) : Int) = (j : Int) + 1 from by omega] at hd
  refine ACalls.mono hd ?_
  rintro _ _ ⟨rfl, rfl⟩
  simp [h1, h4, h5, h9, h10, h11, hoc]
  intro b22 hb22
  simp at hb22
  simp [h1, h4, h5, h9, h10, h11, hb22, hoc]
  refine appendA_updO (es := 1) (n := i) (k := 1) Nat.zero_lt_one (by omega) (fun e => by have := ho.1 e; subst this; rw [off0]; rfl) (by simp [partsC, offl i hi]) Nat.zero_lt_one ?_ fun bp hbp => ?_
  · refine freshO_of fun x e => ?_
    have e2 : ¬ bc = x := fun q => hoc (q ▸ e)
    have e4 : ¬ b22 = x := fun q => hb22.1 (q ▸ e)
    simp [e2, e4, Ne.symm e2, Ne.symm e4]
  simp [hb22] at hbp
  simp [h1, h4, h5, h9, h10, h11, hbp, hb22]
  refine ⟨2, AHeap.empty.upd bp (.cells (partsC (off (i + 1)))), _, ?_, fun i => .inl rfl, ⟨⟨i + 1, some bp⟩, by simp only; omega, by simp only; omega, by simp, ?_⟩⟩
  · intro y
    by_cases yp : y = bp
    · subst yp
      refine .inr (.inr ⟨_, AHeap.upd_same, ?_⟩)
      rw [AHeap.upd_same]
      simp only [List.map_append, List.map_cons, List.map_nil]
      rw [map_frozen partsC_frozen, frz_osl (by simp [Fresh, hbp]), cellsAt_eq (cs := DL) (by simp [AHeap.upd, hbp, hb22])]
      have hel : (r.eraseIdx j).length = m := by rw [List.length_eraseIdx_of_lt (by omega)]; omega
      have hml : m ≤ DL.length := by omega
      simp only [List.drop_zero, Nat.zero_add, Nat.mul_one, hml, if_true]
      rw [hDLt, map_frozen intC_frozen, offs]
      simp [partsC, hel]
    · rw [AHeap.upd_ne yp]
      exact .inl rfl
  · simp [h1, h4, h5, h9, h10, h11, hwi]
end Go.Proofs
