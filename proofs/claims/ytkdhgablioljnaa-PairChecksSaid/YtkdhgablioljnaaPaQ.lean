/-
  Pair: what is no graph is refused.
-/
import Derived.Test.YtkdhgablioljnaaPaP
set_option linter.unusedSimpArgs false
set_option linter.unusedVariables false
set_option linter.unusedSectionVars false
namespace Go.Proofs
open Go Go.AH
set_option maxRecDepth 10000
set_option maxHeartbeats 4000000

section
variable (n : Int) (V : AV) (hV1 : V.one = true) (hV2 : V.fit = true) (hV3 : V.cells = [V]) (H : AHeap)
include hV1 hV2 hV3
theorem l_giveV : ACalls Try.prog 23 [.agg [.int .i64 n, V]] H fun r h' => r = .agg [.int .i64 n, V] ∧ h' = H := by
  refine acalls_of Try.func23 rfl Try.call23 (by kernel_rfl) (by show _ ≤ (8 : Nat); simp) ?_
  simp [hV1, hV2, hV3]
  intro b1 hb1
  have hn1 : H b1 = none := by simpa [Fresh] using hb1
  simp
  intro b2 hb2
  simp at hb2
  have hn2 : H b2 = none := by simpa [Fresh] using hb2.2.2
  simp [hb2, splice, hV1, hV2, hV3]
  exact finA_same H (Drop.new (Drop.new (Drop.refl _) (by simpa [Fresh] using hb1)) (by simp [hb2, Fresh] at *; simp [AHeap.upd, hb2])) ⟨rfl, rfl⟩
variable (hc : ∀ H', HLe H H' → ACalls Try.prog 46 [.agg [.int .i64 n, V]] H' fun r h' => r = .int .i64 40 ∧ h' = H')
include hc
theorem e_Match : ACalls Try.prog 31 [.agg [.int .i64 n, V]] H fun r h' => r = .tup [.nilsl, .int .i64 40] ∧ h' = H := by
  refine acalls_of Try.func31 rfl Try.call31 (by kernel_rfl) (by show _ ≤ (22 : Nat); simp) ?_
  simp [hV1, hV2, hV3]
  intro b1 hb1
  simp
  refine (hc _ ((HLe.refl _).new hb1)).use ?_
  simp
  exact finA_same H (Drop.new (Drop.refl _) (by simpa [Fresh] using hb1)) ⟨rfl, rfl⟩
theorem e_Cover : ACalls Try.prog 48 [.agg [.int .i64 n, V]] H fun r h' => r = .tup [.nilsl, .bool false, .int .i64 40] ∧ h' = H := by
  refine acalls_of Try.func48 rfl Try.call48 (by kernel_rfl) (by show _ ≤ (76 : Nat); simp) ?_
  simp [hV1, hV2, hV3]
  intro b1 hb1
  simp
  refine (hc _ ((HLe.refl _).new hb1)).use ?_
  simp
  exact finA_same H (Drop.new (Drop.refl _) (by simpa [Fresh] using hb1)) ⟨rfl, rfl⟩
theorem e_Divide : ACalls Try.prog 32 [.agg [.int .i64 n, V]] H fun r h' => r = .tup [.agg [.nilsl, .nilsl, .nilsl], .int .i64 40] ∧ h' = H := by
  refine acalls_of Try.func32 rfl Try.call32 (by kernel_rfl) (by show _ ≤ (13 : Nat); simp) ?_
  simp [hV1, hV2, hV3]
  intro b1 hb1
  simp
  intro b2 hb2
  simp at hb2
  simp [hb2]
  refine (hc _ (((HLe.refl _).new hb1).new (by simp [hb2]))).use ?_
  simp [hb2, splice]
  have hb2f : Fresh (H.upd b1 (.cells [.int .i64 n, V])) b2 := by simp [hb2]
  exact finA_same H (Drop.new (Drop.new (Drop.refl _) (by simpa [Fresh] using hb1)) (show Fresh H b2 by simp [hb2])) ⟨rfl, rfl⟩
theorem e_Barrier : ACalls Try.prog 47 [.agg [.int .i64 n, V]] H fun r h' => r = .tup [.nilsl, .int .i64 40] ∧ h' = H := by
  refine acalls_of Try.func47 rfl Try.call47 (by kernel_rfl) (by show _ ≤ (14 : Nat); simp) ?_
  simp [hV1, hV2, hV3]
  intro b1 hb1
  simp
  refine (e_Divide n V hV1 hV2 hV3 (H.upd b1 (.cells [.int .i64 n, V])) (fun H' x => hc H' (((HLe.refl _).new hb1).trans x))).use ?_
  simp
  intro b2 hb2
  simp at hb2
  simp [hb2, splice]
  have hb2f : Fresh (H.upd b1 (.cells [.int .i64 n, V])) b2 := by simp [hb2]
  exact finA_same H (Drop.new (Drop.new (Drop.refl _) (by simpa [Fresh] using hb1)) (show Fresh H b2 by simp [hb2])) ⟨rfl, rfl⟩
end
theorem appendK_nil {es k : Nat} {xs : List AV} {h : AHeap} {K : AV → AHeap → Prop} (hn : k < 1073741824) (hx : k = 0 → xs = []) (q : ∀ o, (o = none ↔ k = 0) → FreshO h o → K (ownV o k es) (h.updO o xs)) : appendK h es .nilsl k xs K := by
  refine ⟨fun e => ?_, fun e => ⟨by omega, fun b hb => ?_⟩⟩
  · have := q none (by simp [e]) (by simp)
    simpa using this
  · have := q (some b) (by simp [e]) hb
    simpa using this
theorem lendG {n : Int} {E : List Ed} {o : Option Nat} {H : AHeap} {f : FuncId} {r : AV} (hr : r.bare1 = true) (ho : o = none ↔ E = []) (hb : ∀ x, o = some x → H x = some (.cells (edC E))) (xs ys : List AV) (hx : xs.map (frzF 3 H AHeap.empty) = ys) (c : Pure Try.prog f (gV n E :: ys) r) :
    ACalls Try.prog f (.agg [.int .i64 n, ownV o E.length 2] :: xs) H fun r' h' => r' = r ∧ h' = H := by
  refine Pure.lend (k := 3) (r := r) hr ?_ ⟨rfl, rfl⟩
  have e : (.agg [.int .i64 n, ownV o E.length 2] :: xs : List AV).map (frzF 3 H AHeap.empty) = gV n E :: ys := by
    rw [List.map_cons, hx]
    congr 1
    rw [frz_agg]
    simp only [List.map_cons, List.map_nil, frz_int]
    unfold gV
    congr 1
    congr 1
    congr 1
    cases o with
    | none => rw [ho.1 rfl]; simp [edL]
    | some x =>
      have hne : ¬ E = [] := fun q => nomatch ho.2 q
      rw [ownV_some, frz_osl (by simp), cellsAt_eq (hb x rfl)]
      simp [edL, hne]
      rw [map_frozen edC_frozen]
      exact List.take_of_length_le (by simp)
  rw [e]
  exact c
theorem w_PairChecks (n : Int) (l : List Ed) (hl : l.length ≤ 4611686018427387904) :
    Pure Try.prog 11 [.agg [.int .i64 n, edS l]] (.bool true) := by
  refine pure_of (acalls_of Try.func11 rfl Try.call11 (by kernel_rfl) (by show _ ≤ (135 : Nat); simp) ?_)
  obtain ⟨N, hN⟩ : ∃ N, N = min l.length 301 := ⟨_, rfl⟩
  have hmin : (if (301 : Int) < (l.length : Int) then (301 : Int) else (l.length : Int)) = (N : Int) := by split <;> omega
  have hN1 : (N : Int) ≤ (l.length : Int) := by omega
  have hNl : N ≤ l.length := by omega
  obtain ⟨E, hE⟩ : ∃ E, E = l.take N := ⟨_, rfl⟩
  have hEl : E.length = N := by rw [hE]; simp; omega
  unfold edS
  simp
  intro b1 hb1
  simp
  refine awp_drawM (by kernel_rfl) (fun b => if b = b1 then 1 else 0) [[], [1], [], [], [1], [], [1], [], [], [], [], [], [], [0]] (by kernel_rfl) (by kernel_rfl) ?_
  simp [hmin, hN1, hNl, accA, blkS]
  have hxs : List.take (N * 2) (edC l) = edC E := by
    rw [hE]
    have : edC l = edC (l.take N) ++ edC (l.drop N) := by rw [← edC_append, List.take_append_drop]
    rw [this, List.take_append_of_le_length (by simp; omega), List.take_of_length_le (by simp; omega)]
  rw [hxs]
  refine appendK_nil (by omega) (fun e => by rw [List.eq_nil_of_length_eq_zero (hEl.trans e)]; rfl) fun o ho hf => ?_
  have hoE : o = none ↔ E = [] := by rw [ho, ← hEl]; exact ⟨List.eq_nil_of_length_eq_zero, fun e => by rw [e]; rfl⟩
  obtain ⟨V, hV⟩ : ∃ V, V = ownV o N 2 := ⟨_, rfl⟩
  have hV1 : V.one = true := by rw [hV]; cases o <;> rfl
  have hV2 : V.fit = true := by rw [hV]; cases o <;> rfl
  have hV3 : V.cells = [V] := by rw [hV]; cases o <;> rfl
  have hVE : V = ownV o E.length 2 := by rw [hV, hEl]
  rw [← hV]
  have ob1 : ¬ o = some b1 := fun e => by subst e; simp at hf
  obtain ⟨H1, hH1⟩ : ∃ H1, H1 = (AHeap.empty.upd b1 (.cells [.int .i64 n, .sl l.length (edC l)])).updO o (edC E) := ⟨_, rfl⟩
  have k1 : ∀ x, o = some x → H1 x = some (.cells (edC E)) := fun x e => by subst e; rw [hH1]; simp
  rw [← hH1]
  simp [hV1, hV2, hV3]
  intro b4 hb4
  simp [hb4, splice, hV1, hV2, hV3]
  have hb41 : ¬ b4 = b1 := by rw [hH1] at hb4; simp at hb4; exact hb4.2.1
  refine ⟨hb41, ?_⟩
  refine (l_giveV n V hV1 hV2 hV3 _).use ?_
  simp [hV1, hV2, hV3]
  intro b5 hb5
  simp at hb5
  simp [hb5, splice, hV1, hV2, hV3]
  obtain ⟨H, hH⟩ : ∃ H, H = (H1.upd b4 (.cells [.int .i64 n, V])).upd b5 (.cells [.int .i64 n, V]) := ⟨_, rfl⟩
  have d4 : ∀ off, cellsAt H b4 off = some (([.int .i64 n, V] : List AV).drop off) := fun off => by rw [hH]; simp [hb5]
  have d5 : ∀ off, cellsAt H b5 off = some (([.int .i64 n, V] : List AV).drop off) := fun off => by rw [hH]; simp [hb5]
  have kH : ∀ x, o = some x → H x = some (.cells (edC E)) := fun x e => by
    have e1 := k1 x e
    have e4 : ¬ x = b4 := fun q => by rw [q] at e1; rw [hb4] at e1; cases e1
    have e5 : ¬ x = b5 := fun q => by
      have e6 : H1 b5 = none := by have := hb5.2.2; exact this
      rw [q, e6] at e1; cases e1
    rw [hH, AHeap.upd_ne e5, AHeap.upd_ne e4]; exact e1
  have kH' : ∀ H', HLe H H' → ∀ x, o = some x → H' x = some (.cells (edC E)) := fun H' hl x e => hl x _ (kH x e)
  rw [← hH]
  have cR := (lendG (f := 45) (r := .int .i64 (chkG n E)) rfl hoE kH [] [] rfl (w_RCheck n E (by omega)))
  have cC : ∀ H', HLe H H' → ACalls Try.prog 46 [.agg [.int .i64 n, V]] H' fun r' h' => r' = .int .i64 (chkG n E) ∧ h' = H' := fun H' hl => by
    have := lendG (f := 46) (r := .int .i64 (chkG n E)) rfl hoE (kH' H' hl) [] [] rfl (w_Check n E (by omega))
    rw [← hVE] at this; exact this
  rw [← hVE] at cR
  refine cR.use ?_
  simp [d5, hV1, hV2, hV3]
  refine (cC H (HLe.refl _)).use ?_
  simp
  rcases chk_cases n E with c0 | c0
  · simp [c0]
    refine w_awake.use ?_
    simp
    exact finA_drop rfl
  rw [c0] at cC ⊢
  simp [d5, hV1, hV2, hV3]
  refine (e_Match n V hV1 hV2 hV3 H cC).use ?_
  simp [d5, hV1, hV2, hV3]
  refine (e_Barrier n V hV1 hV2 hV3 H cC).use ?_
  simp [d5, hV1, hV2, hV3]
  refine (e_Divide n V hV1 hV2 hV3 H cC).use ?_
  simp [d5, hV1, hV2, hV3]
  intro b11 hb11
  have n5 := ne_fresh (d5 0) hb11
  simp [d5, n5, splice, hV1, hV2, hV3]
  obtain ⟨H2, hH2⟩ : ∃ H2, H2 = H.upd b11 (.cells [.nilsl, .nilsl, .nilsl]) := ⟨_, rfl⟩
  have l2 : HLe H H2 := by rw [hH2]; exact (HLe.refl _).new hb11
  have g5 : ∀ off, cellsAt H2 b5 off = some (([.int .i64 n, V] : List AV).drop off) := fun off => l2.cells (d5 off)
  have g11 : ∀ off, cellsAt H2 b11 off = some (([.nilsl, .nilsl, .nilsl] : List AV).drop off) := fun off => by rw [hH2]; simp
  rw [← hH2]
  refine (e_Cover n V hV1 hV2 hV3 H2 (fun H' x => cC H' (l2.trans x))).use ?_
  simp [g5, hV1, hV2, hV3]
  refine awp_draw_text (by kernel_rfl) [] [] (by kernel_rfl) (by kernel_rfl) (by simp) ?_
  simp [g5, hV1, hV2, hV3]
  intro bm hbm
  have cP : ACalls Try.prog 25 [.agg [.int .i64 n, V], .osl bm 0 5 1] (H2.upd bm (.cells (List.replicate 5 (.int .i64 0)))) fun r' h' => r' = .tup [.int .i64 0, .bool false] ∧ h' = H2.upd bm (.cells (List.replicate 5 (.int .i64 0))) := by
    have := lendG (f := 25) (H := H2.upd bm (.cells (List.replicate 5 (.int .i64 0)))) (r := .tup [.int .i64 0, .bool false]) rfl hoE (fun x e => kH' _ (l2.trans ((HLe.refl _).new hbm)) x e) [.osl bm 0 5 1] [intL (List.replicate 5 0)] (by
      simp only [List.map_cons, List.map_nil]
      rw [frz_osl (by simp), cellsAt_eq AHeap.upd_same]
      simp [intL, intC]) (by
      have := w_IsPairing n E (by omega) (List.replicate 5 0) (by simp)
      unfold isPP at this
      rw [if_neg (fun q => by rw [c0] at q; exact absurd q.1 (by decide))] at this
      exact this)
    rw [← hVE] at this; exact this
  have cB : ∀ H', HLe H H' → ACalls Try.prog 27 [.agg [.int .i64 n, V], .nilsl, .int .i64 0] H' fun r' h' => r' = .bool false ∧ h' = H' := fun H' hl => by
    have := lendG (f := 27) (r := .bool false) rfl hoE (kH' H' hl) [.nilsl, .int .i64 0] [intL [], .int .i64 0] rfl (by
      have := w_IsBarrier n E (by omega) [] (by simp) 0
      unfold barB at this
      rw [c0] at this
      exact this)
    rw [← hVE] at this; exact this
  refine cP.use ?_
  have m5 := ne_fresh (g5 0) hbm
  have m11 := ne_fresh (g11 0) hbm
  simp [g5, g11, m5, m11, hV1, hV2, hV3]
  refine (cB _ (l2.trans ((HLe.refl _).new hbm))).use ?_
  simp [g5, g11, m5, m11, hV1, hV2, hV3]
  refine w_awake.use ?_
  simp
  exact finA_drop rfl
end Go.Proofs
