/-
  Flow: Most, its flow being the caller's own.
-/
import Derived.Test.YtpnikgfpcgaboaaFlL2
set_option linter.unusedSimpArgs false
set_option linter.unusedVariables false
set_option linter.unusedSectionVars false
namespace Go.AH
open Go
theorem empty_updO_un {h : AHeap} {o : Option Nat} {cs : List AV} (D : Disj (AHeap.empty.updO o cs) h) : (AHeap.empty.updO o cs).un h = h.updO o cs ∧ FreshO h o := by
  cases o with
  | none => exact ⟨by rw [updO_none, updO_none, AHeap.empty_un], trivial⟩
  | some b =>
    refine ⟨?_, ?_⟩
    · funext x
      simp only [updO_some, AHeap.un, AHeap.upd, AHeap.empty]
      by_cases e : x = b
      · simp [e]
      · simp [e]
    · have := D b
      simp [AHeap.upd] at this
      exact this
end Go.AH
namespace Go.Proofs
open Go Go.AH
set_option maxRecDepth 10000
set_option maxHeartbeats 4000000

theorem w_MostO0 (P : Nat) (l : List RArc) (O : ArcsOk P l fun _ => 0) (s' t' : Nat) (hs2 : s' < P) (ht2 : t' < P) (hst : s' ≠ t') : ACalls Try.prog 18 [netV P l, .int .i64 s', .int .i64 t'] AHeap.empty fun r h' =>
    ∃ (o : Option Nat) (v : Int) (left : Nat → Int), r = .tup [.int .i64 v, ownV o l.length 1, .int .i64 0] ∧ h' = AHeap.empty.updO o (intC (flowL l left)) ∧ (o = none ↔ l.length = 0) ∧ Fl (srOf P l fun _ => 0) s' t' left v := by
  obtain ⟨Q, hQ⟩ : ∃ Q : AV → AHeap → Prop, Q = fun r h' => ∃ (o : Option Nat) (v : Int) (left : Nat → Int), r = .tup [.int .i64 v, ownV o l.length 1, .int .i64 0] ∧ h' = AHeap.empty.updO o (intC (flowL l left)) ∧ (o = none ↔ l.length = 0) ∧ Fl (srOf P l fun _ => 0) s' t' left v := ⟨_, rfl⟩
  rw [← hQ]
  refine acalls_of Try.func18 rfl Try.call18 (by kernel_rfl) (by show _ ≤ (54 : Nat); simp) ?_
  have hl : l.length ≤ 1000000 := by have := O.len; omega
  have ck := w_CheckN P l hl
  have ce := w_areEnds P s' t'
  rw [chk_of_ok O] at ck
  rw [ends_ok hs2 ht2 hst] at ce
  obtain ⟨V, hV⟩ : ∃ V, V = arcsL l := ⟨_, rfl⟩
  have hV1 : V.one = true := by rw [hV]; simp
  have hV2 : V.fit = true := by rw [hV]; simp
  have hV3 : V.cells = [V] := by rw [hV]; simp
  have hV4 : ∀ h, lenA Try.prog h 30 V = some (.int .i64 (l.length : Int)) := fun h => by rw [hV, lenA_arcsL]
  unfold netV at ck ⊢
  rw [← hV] at ck ⊢
  simp [hV1, hV2, hV3]
  intro b3 hb3
  simp [hV1, hV2, hV3]
  refine ck.use ?_
  simp
  refine ce.use ?_
  simp
  have hN : NAt P l b3 (AHeap.empty.upd b3 (.cells [.int .i64 P, V])) := fun off => by rw [hV]; simp
  refine ACalls.mono (w_flow (netSrc P l hl b3 _ hN) O) ?_
  rintro _ _ ⟨W, hW, rfl, rfl⟩
  have hWb : ¬ W = b3 := fun e => by rw [e] at hW; simp [AHeap.upd] at hW
  have hbW : ¬ b3 = W := fun e => hWb e.symm
  simp
  refine ACalls.mono (w_pushed O hW hs2 ht2 hst) ?_
  rintro _ _ ⟨v, left, lv, rfl, rfl, v0, F, L, hc⟩
  obtain ⟨S, hS⟩ : ∃ S, S = srOf P l fun _ => 0 := ⟨_, rfl⟩
  have hfin : ∀ o, (o = none ↔ l.length = 0) → Q (.tup [.int .i64 v, ownV o l.length 1, .int .i64 0]) (AHeap.empty.updO o (intC (flowL l left))) := fun o h => by
    rw [hQ]; exact ⟨o, v, left, rfl, rfl, h, F⟩
  have hl200 := O.len
  have hleft : ∀ k, k < 2 * l.length → 0 ≤ left k ∧ left k ≤ 2000000000 := fun k hk => left_le (srOf_ok O) F.toLeft hk
  obtain ⟨To, hTo⟩ : ∃ To, To = wTo (srOf P l fun _ => 0) l.length := ⟨_, rfl⟩
  obtain ⟨Ro, hRo⟩ : ∃ Ro : Nat → AV, Ro = fun p => natL (rowOf (srOf P l fun _ => 0) l.length p) := ⟨_, rfl⟩
  obtain ⟨FL, hFL⟩ : ∃ FL, FL = flowL l left := ⟨_, rfl⟩
  have hFLl : FL.length = l.length := by rw [hFL]; simp [flowL]
  rw [← hTo, ← hRo]
  rw [← hFL] at hfin
  clear hN hW
  simp [hbW, hWb, hV4, -lenA]
  refine awp_loop_g (γ := At) (fun q t h => (q.i ≤ l.length) ∧ ((q.o = none ↔ q.i = 0) ∧ ¬ q.o = some b3 ∧ ¬ q.o = some W) ∧ t 6 = .int .i64 v ∧ t 7 = ownV q.o q.i 1 ∧ t 10 = .ptr W 0 ∧ t 31 = V ∧ t 32 = .int .i64 l.length ∧ t 33 = .int .i64 q.i ∧ h = ((AHeap.empty.upd b3 (.cells [.int .i64 P, V])).upd W (.cells (wC P To left Ro))).updO q.o (intC (FL.take q.i))) (fun q => l.length - q.i) (⟨0, none⟩) (turnA_self (by simp)) ?_
  rintro q t hx ⟨hi, ho, h6, h7, h10, h31, h32, h33, ex⟩
  rw [ex]
  clear ex
  obtain ⟨i, o⟩ := q
  simp only at h6 h7 h10 h31 h32 h33 hi ho
  obtain ⟨ho1, ho2, ho3⟩ := ho
  by_cases hlt : i < l.length
  · have hltI : (i : Int) < (l.length : Int) := by omega
    have hwi : IntKind.i64.wrap ((i : Int) + 1) = (i : Int) + 1 := wrap_i64 (by omega) (by omega)
    have hw2 : IntKind.i64.wrap (2 * (i : Int)) = ((2 * i : Nat) : Int) := by rw [wrap_i64 (by omega) (by omega)]; omega
    obtain ⟨k2, hk2⟩ : ∃ k2, k2 = 2 * i := ⟨_, rfl⟩
    rw [← hk2] at hw2
    have k400 : k2 < 400 := by omega
    have k400I : (k2 : Int) < 400 := by omega
    have hne : ¬ l = [] := fun e => by rw [e] at hlt; simp at hlt
    have hVs : V = .sl l.length (arcC l) := by rw [hV]; unfold arcsL arcsA; rw [if_neg hne]
    have hat := arcC_at hlt
    obtain ⟨x, hx⟩ : ∃ x, x = l[i] := ⟨_, rfl⟩
    rw [← hx] at hat
    have hxo := arcOk_iff.1 (O.ok x (hx ▸ List.getElem_mem hlt))
    have hlf := hleft k2 (by omega)
    have hws : IntKind.i64.wrap (x.c - left k2) = x.c - left k2 := wrap_i64 (by omega) (by omega)
    have hi3 : 3 ≤ l.length * 3 - i * 3 := by omega
    have hi4 : min 3 (l.length * 3 - i * 3) = 3 := by omega
    have hiF : i < FL.length := by omega
    have hts : intC (FL.take (i + 1)) = intC (FL.take i) ++ [.int .i64 (x.c - left k2)] := by
      rw [List.take_succ_eq_append_getElem hiF]
      have : FL[i] = x.c - left k2 := by
        simp only [hFL, flowL, List.getElem_map, List.getElem_range]
        rw [List.getD_eq_getElem?_getD, List.getElem?_eq_getElem hlt, hk2, hx]; rfl
      simp [intC, this]
    simp [h6, h7, h10, h31, h32, h33, hlt, hltI, hVs, hat, hi3, hi4]
    intro b12 hb12
    simp [ho2, ho3] at hb12
    simp [h6, h7, h10, h31, h32, h33, hb12, splice]
    refine awp_draw_text (by kernel_rfl) [] [] (by kernel_rfl) (by kernel_rfl) (by simp) ?_
    simp [h6, h7, h10, h31, h32, h33, hb12, hbW, hWb, ho2, ho3, hw2, k400, k400I, gt_left, dr_left, hws]
    intro b13 hb13
    simp [ho2, ho3, hb12] at hb13
    simp [h6, h7, h10, h31, h32, h33, hb13, hb12, hbW, hWb, ho2, ho3]
    refine appendA_updO (by omega) (by omega) (fun e => by rw [ho1.1 e]; rfl) (by simp [intC]; omega) (by simp) (by cases o with | none => simp | some b => simp at hb13 hb12 ho2 ho3 ⊢; grind) fun b' hb' => ?_
    simp [hb13, hb12, hbW, hWb, ho2, ho3] at hb'
    simp [h6, h7, h10, h31, h32, h33, hb', hb13, hb12, hbW, hWb, ho2, ho3]
    rw [← hts, ← hVs]
    refine turnA_to (((AHeap.empty.upd b3 (.cells [.int .i64 P, V])).upd W (.cells (wC P To left Ro))).updO (some b') (intC (FL.take (i + 1)))) ?_ ⟨⟨i + 1, some b'⟩, by simp only; omega, by simp only; omega, by simp [hb'], by simp [h6, h7, h10, h31, h32, h33, hwi, hVs]⟩
    simp
    refine Drop.both (Drop.new (Drop.new (Drop.refl _) ?_) ?_)
    all_goals simp [hb12, hb13]
  · obtain rfl : i = l.length := by omega
    simp [h6, h7, h10, h31, h32, h33]
    have hFt : FL.take l.length = FL := List.take_of_length_le (by omega)
    rw [hFt]
    refine finA_same (AHeap.empty.updO o (intC FL)) ?_ (hfin o ho1)
    cases o with
    | none => exact Drop.empty _
    | some b =>
      simp only [updO_some]
      exact Drop.both (Drop.empty _)
theorem w_MostO (P : Nat) (l : List RArc) (O : ArcsOk P l fun _ => 0) (s t : Nat) (hs2 : s < P) (ht2 : t < P) (hst : s ≠ t) (h : AHeap) : ACalls Try.prog 18 [netV P l, .int .i64 s, .int .i64 t] h fun r h' =>
    ∃ (o : Option Nat) (v : Int) (left : Nat → Int), r = .tup [.int .i64 v, ownV o l.length 1, .int .i64 0] ∧ h' = h.updO o (intC (flowL l left)) ∧ FreshO h o ∧ (o = none ↔ l.length = 0) ∧ Fl (srOf P l fun _ => 0) s t left v := by
  have := ACalls.frame (w_MostO0 P l O s t hs2 ht2 hst) (h2 := h) Disj.empty
  rw [AHeap.empty_un] at this
  refine ACalls.mono this ?_
  rintro r h' ⟨h1, rfl, D, o, v, left, rfl, rfl, h2, F⟩
  obtain ⟨e1, e2⟩ := empty_updO_un D
  exact ⟨o, v, left, rfl, e1, e2, h2, F⟩
end Go.Proofs
