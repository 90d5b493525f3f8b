/-
  Texts: FlW3 FlW4 FlW5.
-/
import Derived.Test.YtpnikgfpcgaboaaF4
import Derived.Test.YtpnikgfpcgaboaaF3
set_option linter.unusedSimpArgs false
set_option linter.unusedVariables false
set_option linter.unusedSectionVars false
section
/-
  Flow: what can be reached; a way that is widened.
-/
namespace Go.Proofs
open Go Go.AH
set_option maxRecDepth 10000
set_option maxHeartbeats 4000000

/-- The heap of a phase. -/
structure PB where
  W : Nat
  bt : Nat
  bn : Nat
  bw : Nat
  bl : Nat
  bf : Nat
def PB.caps (B : PB) : List AV := [.ptr B.bt 0, .ptr B.bn 0, .ptr B.bw 0, .ptr B.bl 0, .ptr B.bf 0]
def PB.heap (B : PB) (H : AHeap) (P : Int) (to : Nat → Int) (rows : Nat → AV) (t : Nat) (lv : Nat → Int) (next : Nat → Nat) (left : Nat → Int) : AHeap :=
  (((((H.upd B.W (.cells (wC P to left rows))).upd B.bw (.cells [.ptr B.W 0])).upd B.bt (.cells [.int .i64 t])).upd B.bl (.cells (iarr 24 lv))).upd B.bn (.cells (iarr 24 fun p => next p))).upd B.bf (.cells [.fn (.func 77) [] B.caps])
structure PB.Ok (B : PB) : Prop where
  h : B.W ≠ B.bt ∧ B.W ≠ B.bn ∧ B.W ≠ B.bw ∧ B.W ≠ B.bl ∧ B.W ≠ B.bf ∧ B.bt ≠ B.bn ∧ B.bt ≠ B.bw ∧ B.bt ≠ B.bl ∧ B.bt ≠ B.bf ∧ B.bn ≠ B.bw ∧ B.bn ≠ B.bl ∧ B.bn ≠ B.bf ∧ B.bw ≠ B.bl ∧ B.bw ≠ B.bf ∧ B.bl ≠ B.bf

theorem w_widen {S : Sr} {to : Nat → Int} {rows : Nat → AV} {B : PB} (hB : B.Ok) {H : AHeap} (ok : S.Ok) {T : Nat} (ht : T < S.P) {lv : Nat → Int} (hlv : ∀ p, lv p < 24) :
    ∀ (d a : Nat) (most : Int) (next : Nat → Nat) (left : Nat → Int), WOk S to left rows → a < S.P → 0 ≤ lv a → 24 - lv a ≤ d → 0 < most → most ≤ 200000000000 → Left S left →
      ACalls Try.prog 77 ([.int .i64 a, .int .i64 most] ++ B.caps) (B.heap H S.P to rows T lv next left) fun r h' => ∃ x next' left', r = .int .i64 x ∧ h' = B.heap H S.P to rows T lv next' left' ∧ Wide S T lv a most next left x next' left' := by
  intro d
  induction d with
  | zero => intro a most next left O ha ha0 hd; have := hlv a; omega
  | succ d ih =>
  intro a most next left O ha ha0 hd hm hm2 hL
  obtain ⟨R, hRd⟩ : ∃ R : AV → AHeap → Prop, R = fun r h' => ∃ x next' left', r = .int .i64 x ∧ h' = B.heap H S.P to rows T lv next' left' ∧ Wide S T lv a most next left x next' left' := ⟨_, rfl⟩
  have hfin : ∀ x next' left', Wide S T lv a most next left x next' left' → R (.int .i64 x) (B.heap H S.P to rows T lv next' left') := fun x n' l' w => by rw [hRd]; exact ⟨x, n', l', rfl, rfl, w⟩
  rw [← hRd]
  clear hRd
  have O' := O
  refine acalls_of Try.func77 rfl Try.call77 (by kernel_rfl) (by show _ ≤ (107 : Nat); simp [PB.caps]) ?_
  obtain ⟨P24, m200, hto, hrows⟩ := O
  obtain ⟨W, bt, bn, bw, bl, bf⟩ := B
  obtain ⟨n1, n2, n3, n4, n5, n6, n7, n8, n9, n10, n11, n12, n13, n14, n15⟩ := hB.h
  simp only at n1 n2 n3 n4 n5 n6 n7 n8 n9 n10 n11 n12 n13 n14 n15
  simp only [PB.heap, PB.caps] at hfin ih
  simp [PB.caps, PB.heap, n1, n2, n3, n4, n5, n6, n7, n8, n9, n10, n11, n12, n13, n14, n15, n1.symm, n2.symm, n3.symm, n4.symm, n5.symm, n6.symm, n7.symm, n8.symm, n9.symm, n10.symm, n11.symm, n12.symm, n13.symm, n14.symm, n15.symm]
  by_cases hat : a = T
  · subst hat
    simp [n1, n2, n3, n4, n5, n6, n7, n8, n9, n10, n11, n12, n13, n14, n15, n1.symm, n2.symm, n3.symm, n4.symm, n5.symm, n6.symm, n7.symm, n8.symm, n9.symm, n10.symm, n11.symm, n12.symm, n13.symm, n14.symm, n15.symm]
    exact finA_self (hfin _ _ _ (Wide.here hm hL))
  · have hatI : ¬ (a : Int) = (T : Int) := by omega
    have a24 : a < 24 := by omega
    have a24I : (a : Int) < 24 := by omega
    have hra := hrows a ha
    obtain ⟨Ra, hRa⟩ : ∃ Ra, Ra = rowOf S S.m a := ⟨_, rfl⟩
    rw [← hRa] at hra
    have hlen : Ra.length ≤ 400 := by have := rowOf_len (S := S) (n := S.m) (p := a); rw [hRa]; omega
    simp [hatI, n1, n2, n3, n4, n5, n6, n7, n8, n9, n10, n11, n12, n13, n14, n15, n1.symm, n2.symm, n3.symm, n4.symm, n5.symm, n6.symm, n7.symm, n8.symm, n9.symm, n10.symm, n11.symm, n12.symm, n13.symm, n14.symm, n15.symm]
    refine awp_loop_g (γ := Nat → Nat) (fun n t h => (Scan S T lv a left next n) ∧ t 0 = .int .i64 a ∧ t 1 = .int .i64 most ∧ t 2 = .ptr bt 0 ∧ t 3 = .ptr bn 0 ∧ t 4 = .ptr bw 0 ∧ t 5 = .ptr bl 0 ∧ t 6 = .ptr bf 0 ∧ h = (((((H.upd W (.cells (wC S.P to left rows))).upd bw (.cells [.ptr W 0])).upd bt (.cells [.int .i64 T])).upd bl (.cells (iarr 24 lv))).upd bn (.cells (iarr 24 fun p => n p))).upd bf (.cells [.fn (.func 77) [] [.ptr bt 0, .ptr bn 0, .ptr bw 0, .ptr bl 0, .ptr bf 0]])) (fun n => Ra.length - n a) (next) (turnA_self (by simp [Scan.refl])) ?_
    rintro n t h ⟨hS, h0, h1, h2, h3, h4, h5, h6, rfl⟩
    obtain ⟨N, hN⟩ : ∃ N : Nat → Int, N = fun p => ((n p : Nat) : Int) := ⟨_, rfl⟩
    have hNa : N a = ((n a : Nat) : Int) := by rw [hN]
    rw [← hN]
    have a23 : a ≤ 23 := by omega
    refine awp_draw_text (by kernel_rfl) [] [] (by kernel_rfl) (by kernel_rfl) (by simp) ?_
    simp [h0, h1, h2, h3, h4, h5, h6, n1, n2, n3, n4, n5, n6, n7, n8, n9, n10, n11, n12, n13, n14, n15, n1.symm, n2.symm, n3.symm, n4.symm, n5.symm, n6.symm, n7.symm, n8.symm, n9.symm, n10.symm, n11.symm, n12.symm, n13.symm, n14.symm, n15.symm, a24, a24I, gt_row, dr_row, iarr_get, iarr_dr, hra, hNa, -lenA, lenA_natL]
    by_cases hlt : n a < Ra.length
    · have hltI : ((n a : Nat) : Int) < (Ra.length : Int) := by omega
      obtain ⟨k, hkc⟩ : ∃ k, k = Ra[n a] := ⟨_, rfl⟩
      have hk' : Ra[n a]? = some k := by rw [hkc]; exact List.getElem?_eq_getElem hlt
      have hkR : k ∈ rowOf S S.m a := hRa ▸ List.mem_of_getElem? hk'
      obtain ⟨hk2, hkt⟩ := mem_rowOf.1 hkR
      have k400 : k < 400 := by omega
      have k400I : (k : Int) < 400 := by omega
      have hdP := hd_lt ok hk2
      have hne : ¬ Ra = [] := fun e => by rw [e] at hlt; simp at hlt
      have hV : natL Ra = .sl Ra.length (natC Ra) := by unfold natL; rw [if_neg hne]
      have hll := left_le ok hL hk2
      have htk := hto k hk2
      obtain ⟨v, hv⟩ : ∃ v, v = S.hd k := ⟨_, rfl⟩
      rw [← hv] at hdP htk
      have v24 : v < 24 := by omega
      have v24I : (v : Int) < 24 := by omega
      have la := hlv a
      have wl : IntKind.i64.wrap (lv a + 1) = lv a + 1 := wrap_i64 (by omega) (by omega)
      have wn : IntKind.i64.wrap (((n a : Nat) : Int) + 1) = ((n a : Nat) : Int) + 1 := wrap_i64 (by omega) (by omega)
      have eU : upf N a (((n a : Nat) : Int) + 1) = fun p => ((upf n a (n a + 1) p : Nat) : Int) := by
        funext p
        rw [hN]
        unfold upf
        by_cases e : p = a
        · rw [if_pos e, if_pos e]; omega
        · rw [if_neg e, if_neg e]
      have hkrow : (rowOf S S.m a)[n a]? = some k := hRa ▸ hk'
      simp [h0, h1, h2, h3, h4, h5, h6, hlt, hltI]
      refine awp_draw_text (by kernel_rfl) [] [] (by kernel_rfl) (by kernel_rfl) (by simp) ?_
      simp [h0, h1, h2, h3, h4, h5, h6, n1, n2, n3, n4, n5, n6, n7, n8, n9, n10, n11, n12, n13, n14, n15, n1.symm, n2.symm, n3.symm, n4.symm, n5.symm, n6.symm, n7.symm, n8.symm, n9.symm, n10.symm, n11.symm, n12.symm, n13.symm, n14.symm, n15.symm, a24, a24I, gt_row, dr_row, iarr_get, iarr_dr, hra, hNa, hV, hlt, hltI, natC_at hk']
      refine awp_draw_text (by kernel_rfl) [] [] (by kernel_rfl) (by kernel_rfl) (by simp) ?_
      by_cases hl0 : left k = 0
      · simp [h0, h1, h2, h3, h4, h5, h6, n1, n2, n3, n4, n5, n6, n7, n8, n9, n10, n11, n12, n13, n14, n15, n1.symm, n2.symm, n3.symm, n4.symm, n5.symm, n6.symm, n7.symm, n8.symm, n9.symm, n10.symm, n11.symm, n12.symm, n13.symm, n14.symm, n15.symm, a24, a24I, gt_row, dr_row, iarr_get, iarr_dr, gt_left, dr_left, k400, k400I, hl0]
        simp [h0, h1, h2, h3, h4, h5, h6, n1, n2, n3, n4, n5, n6, n7, n8, n9, n10, n11, n12, n13, n14, n15, n1.symm, n2.symm, n3.symm, n4.symm, n5.symm, n6.symm, n7.symm, n8.symm, n9.symm, n10.symm, n11.symm, n12.symm, n13.symm, n14.symm, n15.symm, a24, a24I, iarr_get, iarr_dr, hNa, wn, iarr_set, a23, eU]
        exact turnA_self ⟨upf n a (n a + 1), by simp only [upf, if_true]; omega, hS.skip hkrow (.inl hl0), by simp [h0, h1, h2, h3, h4, h5, h6]⟩
      · by_cases hlev : lv v = lv a + 1
        · simp [h0, h1, h2, h3, h4, h5, h6, n1, n2, n3, n4, n5, n6, n7, n8, n9, n10, n11, n12, n13, n14, n15, n1.symm, n2.symm, n3.symm, n4.symm, n5.symm, n6.symm, n7.symm, n8.symm, n9.symm, n10.symm, n11.symm, n12.symm, n13.symm, n14.symm, n15.symm, a24, a24I, gt_row, dr_row, iarr_get, iarr_dr, gt_left, dr_left, gt_to, dr_to, k400, k400I, hl0, htk, v24, v24I, wl, hlev]
          refine awp_draw_text (by kernel_rfl) [] [] (by kernel_rfl) (by kernel_rfl) (by simp) ?_
          simp [h0, h1, h2, h3, h4, h5, h6, n1, n2, n3, n4, n5, n6, n7, n8, n9, n10, n11, n12, n13, n14, n15, n1.symm, n2.symm, n3.symm, n4.symm, n5.symm, n6.symm, n7.symm, n8.symm, n9.symm, n10.symm, n11.symm, n12.symm, n13.symm, n14.symm, n15.symm, a24, a24I, gt_row, dr_row, iarr_get, iarr_dr, gt_left, dr_left, gt_to, dr_to, k400, k400I, hl0, htk, v24, v24I]
          have hmin : (if left k < most then left k else most) = min most (left k) := by split <;> omega
          rw [hmin, hN]
          refine ACalls.mono (ih v (min most (left k)) n left O' hdP (by omega) (by omega) (by omega) (by omega) hL) ?_
          rintro r h' ⟨x, n', left', rfl, rfl, w⟩
          have hw : Wide S T lv (S.hd k) (min most (left k)) n left x n' left' := hv ▸ w
          have hlev' : lv (S.hd k) = lv a + 1 := by rw [← hv]; exact hlev
          have hx0 := hw.x0
          have hxm := hw.xm
          simp [h0, h1, h2, h3, h4, h5, h6]
          by_cases hx : 0 < x
          · have e1 : left' k = left k := hw.fr k hk2 (by rw [hkt]; omega)
            have hpk : pr k < 2 * S.m := by unfold pr; split <;> omega
            have hp400 : pr k < 400 := by omega
            have hp400I : ((pr k : Nat) : Int) < 400 := by omega
            have ll1 := left_le ok hw.lf hk2
            have ll2 := left_le ok hw.lf hpk
            have w1 : IntKind.i64.wrap (left' k - x) = left' k - x := wrap_i64 (by omega) (by omega)
            have w2 : IntKind.i64.wrap (left' (pr k) + x) = left' (pr k) + x := wrap_i64 (by omega) (by omega)
            have hne2 : pr k ≠ k := by unfold pr; split <;> omega
            have e2 : upf left' k (left' k - x) (pr k) = left' (pr k) := by unfold upf; rw [if_neg hne2]
            have z1 : 401 + k ≤ 824 := by omega
            have z2 : 401 + pr k ≤ 824 := by omega
            have hwf := Wide.arc ok hk2 hkt hlev' hL hS.nx hS.mono hx hw
            have hxor := xor_pr k k400
            have hfin' := hfin _ _ _ hwf
            unfold aug at hfin'
            obtain ⟨pk, hpk'⟩ : ∃ pk, pk = pr k := ⟨_, rfl⟩
            rw [← hpk'] at hp400 hp400I w2 e2 z2 hxor hfin'
            have hx64 : IntKind.i64.wrap (((k % 2 ^ IntKind.i64.bits ^^^ 1 % 2 ^ IntKind.i64.bits : Nat)) : Int) = (pk : Int) := by
              rw [show k % 2 ^ IntKind.i64.bits = k from Nat.mod_eq_of_lt (by show k < 2 ^ 64; omega), show 1 % 2 ^ IntKind.i64.bits = 1 from rfl, hxor]
              exact wrap_i64 (by omega) (by omega)
            simp [h0, h1, h2, h3, h4, h5, h6, hx]
            refine awp_draw_text (by kernel_rfl) [] [] (by kernel_rfl) (by kernel_rfl) (by simp) ?_
            simp [h0, h1, h2, h3, h4, h5, h6, n1, n2, n3, n4, n5, n6, n7, n8, n9, n10, n11, n12, n13, n14, n15, n1.symm, n2.symm, n3.symm, n4.symm, n5.symm, n6.symm, n7.symm, n8.symm, n9.symm, n10.symm, n11.symm, n12.symm, n13.symm, n14.symm, n15.symm, k400, k400I, gt_left, dr_left, w1, sp_left, z1]
            refine awp_draw_text (by kernel_rfl) [] [] (by kernel_rfl) (by kernel_rfl) (by simp) ?_
            simp [h0, h1, h2, h3, h4, h5, h6, n1, n2, n3, n4, n5, n6, n7, n8, n9, n10, n11, n12, n13, n14, n15, n1.symm, n2.symm, n3.symm, n4.symm, n5.symm, n6.symm, n7.symm, n8.symm, n9.symm, n10.symm, n11.symm, n12.symm, n13.symm, n14.symm, n15.symm, k400, k400I, gt_left, dr_left, w2, sp_left, z2, hp400, hp400I, hx64, e2]
            exact finA_self hfin'
          · have hx1 : x = 0 := by omega
            subst hx1
            obtain ⟨s1, s2, s3⟩ := Scan.trans hS hlev' hw
            obtain ⟨z1, _, _⟩ := hw.zero rfl
            subst z1
            have eU' : upf (fun p => ((n' p : Nat) : Int)) a (((n a : Nat) : Int) + 1) = fun p => ((upf n' a (n' a + 1) p : Nat) : Int) := by
              funext p
              unfold upf
              by_cases e : p = a
              · rw [if_pos e, if_pos e, s2]; omega
              · rw [if_neg e, if_neg e]
            obtain ⟨N', hN'⟩ : ∃ N' : Nat → Int, N' = fun p => ((n' p : Nat) : Int) := ⟨_, rfl⟩
            have hNa' : N' a = ((n a : Nat) : Int) := by rw [hN', ← s2]
            rw [← hN'] at eU' ⊢
            simp [h0, h1, h2, h3, h4, h5, h6]
            simp [h0, h1, h2, h3, h4, h5, h6, n1, n2, n3, n4, n5, n6, n7, n8, n9, n10, n11, n12, n13, n14, n15, n1.symm, n2.symm, n3.symm, n4.symm, n5.symm, n6.symm, n7.symm, n8.symm, n9.symm, n10.symm, n11.symm, n12.symm, n13.symm, n14.symm, n15.symm, a24, a24I, iarr_get, iarr_dr, hNa', wn, iarr_set, a23, eU']
            exact turnA_self ⟨upf n' a (n' a + 1), by simp only [upf, if_true]; omega, s1.skip (by rw [s2]; exact hkrow) (.inr (.inr s3)), by simp [h0, h1, h2, h3, h4, h5, h6]⟩
        · simp [h0, h1, h2, h3, h4, h5, h6, n1, n2, n3, n4, n5, n6, n7, n8, n9, n10, n11, n12, n13, n14, n15, n1.symm, n2.symm, n3.symm, n4.symm, n5.symm, n6.symm, n7.symm, n8.symm, n9.symm, n10.symm, n11.symm, n12.symm, n13.symm, n14.symm, n15.symm, a24, a24I, gt_row, dr_row, iarr_get, iarr_dr, gt_left, dr_left, gt_to, dr_to, k400, k400I, hl0, htk, v24, v24I, wl, hlev]
          simp [h0, h1, h2, h3, h4, h5, h6, n1, n2, n3, n4, n5, n6, n7, n8, n9, n10, n11, n12, n13, n14, n15, n1.symm, n2.symm, n3.symm, n4.symm, n5.symm, n6.symm, n7.symm, n8.symm, n9.symm, n10.symm, n11.symm, n12.symm, n13.symm, n14.symm, n15.symm, a24, a24I, iarr_get, iarr_dr, hNa, wn, iarr_set, a23, eU]
          exact turnA_self ⟨upf n a (n a + 1), by simp only [upf, if_true]; omega, hS.skip hkrow (.inr (.inl (by rw [← hv]; exact hlev))), by simp [h0, h1, h2, h3, h4, h5, h6]⟩
    · have hltI : ¬ ((n a : Nat) : Int) < (Ra.length : Int) := by omega
      simp [h0, h1, h2, h3, h4, h5, h6, hlt, hltI]
      rw [hN]
      exact finA_self (hfin _ _ _ (Wide.none (by omega) hL hS hat (by rw [← hRa]; omega)))
end Go.Proofs

end

section
/-
  Flow: push; what can be reached.
-/
namespace Go.Proofs
open Go Go.AH
set_option maxRecDepth 10000
set_option maxHeartbeats 4000000

structure PS where
  v : Int
  left : Nat → Int
structure PX where
  v : Int
  x : Int
  next : Nat → Nat
  left : Nat → Int
theorem Lv.fin {S : Sr} {s : Nat} {left lv : Nat → Int} (L : Lv S s left lv) : lv s = 0 := L.s0
theorem w_push {S : Sr} {to left : Nat → Int} {rows : Nat → AV} {W : Nat} {H : AHeap} (ok : S.Ok) (O : WOk S to left rows) (hW : H W = none) (s T : Nat) (hs : s < S.P) (hT : T < S.P) (hst : s ≠ T) (F : Fl S s T left 0) :
    ACalls Try.prog 55 [.ptr W 0, .int .i64 s, .int .i64 T] (H.upd W (.cells (wC S.P to left rows))) fun r h' => ∃ v left' lv, r = .int .i64 v ∧ h' = H.upd W (.cells (wC S.P to left' rows)) ∧ 0 ≤ v ∧ Fl S s T left' v ∧ Lv S s left' lv ∧ lv T < 0 := by
  obtain ⟨R, hRd⟩ : ∃ R : AV → AHeap → Prop, R = fun r h' => ∃ v left' lv, r = .int .i64 v ∧ h' = H.upd W (.cells (wC S.P to left' rows)) ∧ 0 ≤ v ∧ Fl S s T left' v ∧ Lv S s left' lv ∧ lv T < 0 := ⟨_, rfl⟩
  have hfin : ∀ v left' lv, 0 ≤ v → Fl S s T left' v → Lv S s left' lv → lv T < 0 → R (.int .i64 v) (H.upd W (.cells (wC S.P to left' rows))) := fun v l' lv h1 h2 h3 h4 => by rw [hRd]; exact ⟨v, l', lv, rfl, rfl, h1, h2, h3, h4⟩
  rw [← hRd]
  clear hRd
  refine acalls_of Try.func55 rfl Try.call55 (by kernel_rfl) (by show _ ≤ (32 : Nat); simp) ?_
  have hOk : ∀ left', WOk S to left' rows := fun l' => ⟨O.P24, O.m200, O.to, O.rows⟩
  obtain ⟨M, hM⟩ : ∃ M, M = S.m * 2000000000 := ⟨_, rfl⟩
  have hMv : ∀ {left' : Nat → Int} {v : Int}, Fl S s T left' v → v ≤ (M : Int) := fun {l' v} F => by have := val_le ok F hs hst; omega
  have m200 := O.m200
  have P24 := O.P24
  have M4 : M ≤ 400000000000 := by omega
  have s24 : s < 24 := by omega
  have T24 : T < 24 := by omega
  have T24I : (T : Int) < 24 := by omega
  simp
  intro bw hbw
  simp at hbw
  simp [hbw]
  intro bt hbt
  simp at hbt
  simp [hbw, hbt]
  refine awp_loop_g (γ := PS) (fun x t h => (0 ≤ x.v) ∧ (Fl S s T x.left x.v) ∧ t 0 = .ptr W 0 ∧ t 1 = .int .i64 s ∧ t 3 = .ptr bw 0 ∧ t 5 = .ptr bt 0 ∧ t 7 = .int .i64 x.v ∧ h = ((H.upd W (.cells (wC S.P to x.left rows))).upd bw (.cells [.ptr W 0])).upd bt (.cells [.int .i64 T])) (fun x => (M - x.v).toNat) (⟨0, left⟩) (turnA_self (by simp [hbw, hbt, F])) ?_
  rintro x t h ⟨hv, hF, h0, h1, h3, h5, h7, rfl⟩
  clear O F left
  obtain ⟨v, left⟩ := x
  simp only at h0 h1 h3 h5 h7 hv hF
  simp [h0, h1, h3, h5, h7, hbw, hbt]
  have hHW : (((H.upd W (.cells (wC S.P to left rows))).upd bw (.cells [.ptr W 0])).upd bt (.cells [.int .i64 T])) W = some (.cells (wC S.P to left rows)) := by simp [AHeap.upd, hbw, hbt]
  refine ACalls.mono (w_levels ok (hOk left) hHW s hs) ?_
  rintro _ _ ⟨rfl, lv, rfl, L, h24⟩
  simp [h0, h1, h3, h5, h7, hbw, hbt, -Try.zeroT148, zero24]
  intro bl hbl
  simp at hbl
  simp [h0, h1, h3, h5, h7, hbw, hbt, hbl, T24, T24I, iarr_get, iarr_dr]
  by_cases hlt : lv T < 0
  · simp [h0, h1, h3, h5, h7, hlt]
    refine finA_same (H.upd W (.cells (wC S.P to left rows))) ?_ (hfin v left lv hv hF L hlt)
    refine Drop.new (Drop.new (Drop.new (Drop.refl _) ?_) ?_) ?_ <;> simp [hbw, hbt, hbl]
  · simp [h0, h1, h3, h5, h7, hlt, hbw, hbt, hbl, -Try.zeroT148, zero24]
    intro bn hbn
    simp at hbn
    simp [h0, h1, h3, h5, h7, hbw, hbt, hbl, hbn]
    intro bf hbf
    simp at hbf
    simp [h0, h1, h3, h5, h7, hbw, hbt, hbl, hbn, hbf]
    have hPB : (PB.mk W bt bn bw bl bf).Ok := ⟨by simp [hbw, hbt, hbl, hbn, hbf]⟩
    have ww := fun (next : Nat → Nat) (left' : Nat → Int) (hL : Left S left') => w_widen hPB (H := H) ok hT (fun p => (h24 p).1) 24 s 200000000000 next left' (hOk left') hs (by rw [L.s0]; omega) (by rw [L.s0]; omega) (by omega) (by omega) hL
    simp only [PB.heap, PB.caps, List.cons_append, List.nil_append] at ww
    have w0 := ww (fun _ => 0) left hF.toLeft
    refine ACalls.mono (show ACalls _ _ _ _ _ from w0) ?_
    rintro _ _ ⟨x, next, left1, rfl, rfl, w⟩
    have hx0 := Wide.first ok L hT (by omega) hF.toLeft w
    have hF1 := Wide.fl hF w
    simp [h0, h1, h3, h5, h7]
    refine awp_loop_g (γ := PX) (fun y t h => (v ≤ y.v ∧ 0 ≤ y.x ∧ v < y.v + y.x) ∧ (Fl S s T y.left (y.v + y.x)) ∧ t 0 = .ptr W 0 ∧ t 1 = .int .i64 s ∧ t 3 = .ptr bw 0 ∧ t 5 = .ptr bt 0 ∧ t 7 = .int .i64 y.v ∧ t 10 = .ptr bf 0 ∧ t 11 = .int .i64 y.x ∧ h = (((((H.upd W (.cells (wC S.P to y.left rows))).upd bw (.cells [.ptr W 0])).upd bt (.cells [.int .i64 T])).upd bl (.cells (iarr 24 lv))).upd bn (.cells (iarr 24 fun p => y.next p))).upd bf (.cells [.fn (.func 77) [] [.ptr bt 0, .ptr bn 0, .ptr bw 0, .ptr bl 0, .ptr bf 0]])) (fun y => (M - y.v).toNat) (⟨v, x, next, left1⟩) (turnA_self (by simp [h0, h1, h3, h5, h7, hbw, hbt, hbl, hbn, hbf, hv, hF1]; omega)) ?_
    rintro y t h ⟨hy, hG, h0, h1, h3, h5, h7, h10, h11, rfl⟩
    obtain ⟨v', x', next', left'⟩ := y
    simp only at h0 h1 h3 h5 h7 h10 h11 hy hG
    have hm := hMv hG
    by_cases hx : 0 < x'
    · have wv : IntKind.i64.wrap (v' + x') = v' + x' := wrap_i64 (by omega) (by omega)
      simp [h0, h1, h3, h5, h7, h10, h11, hx, wv, hbw, hbt, hbl, hbn, hbf]
      refine ACalls.mono (show ACalls _ _ _ _ _ from ww next' left' hG.toLeft) ?_
      rintro _ _ ⟨x2, next2, left2, rfl, rfl, w2⟩
      have hF2 := Wide.fl hG w2
      have hx2 := w2.x0
      simp [h0, h1, h3, h5, h7, h10, h11]
      exact turnA_self ⟨⟨v' + x', x2, next2, left2⟩, by simp only; omega, by simp only; omega, hF2, by simp [h0, h1, h3, h5, h7, h10, h11]⟩
    · have hx1 : x' = 0 := by omega
      subst hx1
      simp [h0, h1, h3, h5, h7, h10, h11]
      rw [Int.add_zero] at hG
      refine turnA_to (((H.upd W (.cells (wC S.P to left' rows))).upd bw (.cells [.ptr W 0])).upd bt (.cells [.int .i64 T])) ?_ ⟨⟨v', left'⟩, by simp only; omega, by simp only; omega, hG, by simp [h0, h1, h3, h5, h7, h10, h11]⟩
      refine Drop.new (Drop.new (Drop.new (Drop.refl _) ?_) ?_) ?_ <;> simp [hbw, hbt, hbl, hbn, hbf]
end Go.Proofs

end

section
/-
  Flow: what can be reached; a network as a source; Most and Cut.
-/
namespace Go.AH
open Go
/-- Turns nothing; what it hands back is as told. -/
def PureE (P : Program) (f : FuncId) (args : List AV) (Q : AV → Prop) : Prop := ∀ h, ACalls P f args h fun r h' => Q r ∧ h' = h
theorem pureE_of {P : Program} {f : FuncId} {args : List AV} {Q : AV → Prop} (c : ACalls P f args AHeap.empty fun r' _ => Q r') : PureE P f args Q := by
  intro h
  have c1 : ACalls P f args AHeap.empty fun r' h' => Q r' ∧ h' = AHeap.empty := by
    refine ⟨c.1, fun hf w vs D Rl rs => CallsIn.mono (c.2 hf w vs D Rl rs) ?_⟩
    rintro en w' ⟨v, r', h1, rfl, q, D1, R1, rv, s⟩
    have sb := SubH.empty 0 h1
    exact ⟨v, r', AHeap.empty, rfl, ⟨q, rfl⟩, sb.disj D1, sb.rel R1 D1, rv.ext (sb.ext D1), s.trans (sb.stp D1)⟩
  have := ACalls.frame c1 (h2 := h) Disj.empty
  rw [AHeap.empty_un] at this
  refine ACalls.mono this ?_
  rintro r' h' ⟨h1, e, _, e2, e3⟩
  subst e3
  exact ⟨e2, e⟩
theorem PureE.use {P : Program} {f : FuncId} {args : List AV} {Q : AV → Prop} {R : AV → AHeap → Prop} {h : AHeap} (c : PureE P f args Q) (k : ∀ r, Q r → R r h) : ACalls P f args h R := ACalls.mono (c h) fun r' h' ⟨e1, e2⟩ => by subst e2; exact k r' e1
end Go.AH
namespace Go.Proofs
open Go Go.AH
set_option maxRecDepth 10000
set_option maxHeartbeats 4000000

def endsB (n s t : Int) : Bool := decide (0 ≤ s) && decide (0 ≤ t) && decide (s < n) && decide (t < n) && decide (s ≠ t)
theorem w_areEnds (n s t : Int) : Pure Try.prog 53 [.int .i64 n, .int .i64 s, .int .i64 t] (.bool (endsB n s t)) := by
  refine pure_of (acalls_of Try.func53 rfl Try.call53 (by kernel_rfl) (by show _ ≤ (23 : Nat); simp) ?_)
  obtain ⟨r, hr⟩ : ∃ r, r = endsB n s t := ⟨_, rfl⟩
  rw [← hr]
  unfold endsB at hr
  simp
  by_cases h1 : 0 ≤ (if t < s then t else s)
  · simp [h1]
    by_cases h2 : (if s < t then t else s) < n
    · simp [h2]
      by_cases h3 : s = t
      · simp [h3]
        refine finA_self ?_
        rw [hr]; simp [h3]
      · simp [h3]
        refine finA_self ?_
        rw [hr]
        have : 0 ≤ s ∧ 0 ≤ t ∧ s < n ∧ t < n := by split at h1 <;> split at h2 <;> omega
        simp [this, h3]
    · simp [h2]
      refine finA_self ?_
      rw [hr]
      have : ¬ (s < n ∧ t < n) := by split at h2 <;> omega
      congr 1
      symm
      simp only [Bool.and_eq_false_imp, decide_eq_false_iff_not, Bool.and_eq_true, decide_eq_true_eq]
      intro ⟨⟨_, h⟩, h'⟩; exact absurd ⟨h, h'⟩ this
  · simp [h1]
    refine finA_self ?_
    rw [hr]
    have : ¬ (0 ≤ s ∧ 0 ≤ t) := by split at h1 <;> omega
    congr 1
    symm
    simp only [Bool.and_eq_false_imp, decide_eq_false_iff_not, Bool.and_eq_true, decide_eq_true_eq]
    intro ⟨⟨h, _⟩, _⟩; exact absurd h this

def reachL (P : Nat) (lv : Nat → Int) : List Nat := (List.range P).filter fun p => decide (0 ≤ lv p)
theorem reachL_succ (P : Nat) (lv : Nat → Int) : reachL (P + 1) lv = reachL P lv ++ (if 0 ≤ lv P then [P] else []) := by
  unfold reachL
  rw [List.range_succ, List.filter_append]
  simp only [List.filter_cons, List.filter_nil, decide_eq_true_eq]
theorem reachL_len (P : Nat) (lv : Nat → Int) : (reachL P lv).length ≤ P := by
  have := List.length_filter_le (fun p => decide (0 ≤ lv p)) (List.range P)
  simpa [reachL] using this
theorem reachL_ext {P : Nat} {lv : Nat → Int} (h : ∀ p, 0 ≤ lv p → p < P) : ∀ n, P ≤ n → reachL n lv = reachL P lv
  | 0, hn => by have : P = 0 := by omega
                rw [this]
  | n + 1, hn => by
    by_cases e : P = n + 1
    · rw [e]
    · rw [reachL_succ, reachL_ext h n (by omega), if_neg (fun q => by have := h n q; omega)]; simp
theorem w_reached {S : Sr} {to left : Nat → Int} {rows : Nat → AV} {W : Nat} {H : AHeap} (ok : S.Ok) (O : WOk S to left rows) (hW : H W = some (.cells (wC S.P to left rows))) (s : Nat) (hs : s < S.P) :
    ACalls Try.prog 56 [.ptr W 0, .int .i64 s] H fun r h' => h' = H ∧ ∃ lv, r = natL (reachL S.P lv) ∧ Lv S s left lv ∧ ∀ p, 0 ≤ lv p → p < S.P := by
  obtain ⟨R, hRd⟩ : ∃ R : AV → AHeap → Prop, R = fun r h' => h' = H ∧ ∃ lv, r = natL (reachL S.P lv) ∧ Lv S s left lv ∧ ∀ p, 0 ≤ lv p → p < S.P := ⟨_, rfl⟩
  have hfin : ∀ lv, Lv S s left lv → (∀ p, 0 ≤ lv p → p < S.P) → R (natL (reachL S.P lv)) H := fun lv h1 h2 => by rw [hRd]; exact ⟨rfl, lv, rfl, h1, h2⟩
  rw [← hRd]
  clear hRd
  refine acalls_of Try.func56 rfl Try.call56 (by kernel_rfl) (by show _ ≤ (23 : Nat); simp) ?_
  simp
  refine ACalls.mono (w_levels ok O hW s hs) ?_
  rintro _ h2 ⟨e2, lv, rfl, L, h24⟩
  rw [e2]
  clear e2 h2
  have P24 := O.P24
  simp
  refine awp_loop_g (γ := At) (fun q t h => (q.i ≤ 24) ∧ (q.o = none ↔ reachL q.i lv = []) ∧ (FreshO H q.o) ∧ t 5 = ownV q.o (reachL q.i lv).length 1 ∧ t 10 = .agg (iarr 24 lv) ∧ t 11 = .int .i64 q.i ∧ h = H.updO q.o (natC (reachL q.i lv))) (fun q => 24 - q.i) (⟨0, none⟩) (turnA_self (by simp [reachL])) ?_
  rintro q t hx ⟨hi, ho, hf, h5, h10, h11, ex⟩
  rw [ex]
  clear ex
  obtain ⟨i, o⟩ := q
  simp only at h5 h10 h11 hi ho hf
  have hml := reachL_len i lv
  have hsc := reachL_succ i lv
  by_cases hlt : i < 24
  · have hiI : (i : Int) < 24 := by omega
    have hwi : IntKind.i64.wrap ((i : Int) + 1) = (i : Int) + 1 := wrap_i64 (by omega) (by omega)
    simp [h5, h10, h11, hlt, hiI, iarr_get, iarr_dr]
    by_cases hq : 0 ≤ lv i
    · rw [if_pos hq] at hsc
      simp [h5, h10, h11, hq, splice]
      intro b3 hb3
      have hb3H : Fresh H b3 := by cases o with | none => simpa using hb3 | some b => simp at hb3; exact hb3.2.2
      simp [h5, h10, h11, hb3]
      have hcm : (H.updO o (natC (reachL i lv))).upd b3 (.cells [.int .i64 (i : Int)]) = (H.upd b3 (.cells [.int .i64 (i : Int)])).updO o (natC (reachL i lv)) := by
        cases o with
        | none => rfl
        | some b => simp at hb3; exact AHeap.upd_comm hb3.2.1
      try rw [hcm]
      refine appendA_updO (by omega) (by omega) (fun e => by rw [ho.1 e]; rfl) (by simp) (by simp) (by cases o with | none => simp [FreshO] | some b => simp at hb3; simp [FreshO, hb3]; exact hf) fun b' hb' => ?_
      simp at hb'
      simp [h5, h10, h11, hb', hb3]
      have hnc : natC (reachL i lv) ++ [.int .i64 (i : Int)] = natC (reachL (i + 1) lv) := by rw [hsc]; simp [natC]
      have hln : (reachL i lv).length + 1 = (reachL (i + 1) lv).length := by rw [hsc]; simp
      rw [hnc, hln]
      refine turnA_to (H.updO (some b') (natC (reachL (i + 1) lv))) ?_ ⟨⟨i + 1, some b'⟩, by simp only; omega, by simp only; omega, by simp only; rw [hsc]; simp, hb'.2.2, by simp [h5, h10, h11, hwi]⟩
      simp
      exact Drop.both (Drop.new (Drop.refl _) hb3H)
    · rw [if_neg hq, List.append_nil] at hsc
      simp [h5, h10, h11, hq]
      exact turnA_self ⟨⟨i + 1, o⟩, by simp only; omega, by simp only; omega, by simp only; rw [hsc]; exact ho, hf, by simp [h5, h10, h11, hwi, hsc]⟩
  · obtain rfl : i = 24 := by omega
    simp [h5, h10, h11]
    have e24 := reachL_ext (fun p h => (h24 p).2 h) 24 P24
    have hf2 := hfin lv L (fun p h => (h24 p).2 h)
    rw [← e24] at hf2
    cases o with
    | none =>
      rw [natL, if_pos (ho.1 rfl)] at hf2
      exact finA_self hf2
    | some b =>
      have hne : ¬ reachL 24 lv = [] := fun e => by cases ho.2 e
      refine finA_to 2 H (by simp; exact Drop.new (Drop.refl _) hf) ?_
      simp only [ownV_some, updO_some]
      rw [frz_osl hf]
      simp
      rw [map_frozen natC_frozen, List.take_of_length_le (by simp)]
      rw [natL, if_neg hne] at hf2
      exact hf2
end Go.Proofs

end
