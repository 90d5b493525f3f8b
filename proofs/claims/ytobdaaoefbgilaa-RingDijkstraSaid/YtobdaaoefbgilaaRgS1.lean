/-
  Ring: the walk of RingDijkstra.
-/
import Derived.Test.YtobdaaoefbgilaaRgC2
import Derived.Test.YtobdaaoefbgilaaRgN2
set_option linter.unusedSimpArgs false
set_option linter.unusedVariables false
set_option linter.unusedSectionVars false
namespace Go.Proofs
open Go Go.AH
set_option maxRecDepth 10000
set_option maxHeartbeats 4000000

theorem l_RingDijkstra (a b : Int) : Pure Try.prog 6 [.agg [.int .i64 a, .int .i64 b]] (.bool true) := by
  refine pure_of (acalls_of Try.func6 rfl Try.call6 (by kernel_rfl) (by show _ ≤ (116 : Nat); simp) ?_)
  have hya := uM_lt (x := a) (n := 4) (by omega)
  have hyb := uM_lt (x := b) (n := 4) (by omega)
  have va := uM_mod (x := a) (n := 4) (by omega)
  have vb := uM_mod (x := b) (n := 4) (by omega)
  obtain ⟨ya, hy1⟩ : ∃ y, y = uM a 4 := ⟨_, rfl⟩
  obtain ⟨yb, hy2⟩ : ∃ y, y = uM b 4 := ⟨_, rfl⟩
  rw [← hy1] at hya va
  rw [← hy2] at hyb vb
  obtain ⟨m, hm⟩ : ∃ m, m = 2 + ya := ⟨_, rfl⟩
  obtain ⟨c, hc⟩ : ∃ c, c = 2 + yb := ⟨_, rfl⟩
  have va4 : (IntKind.u64.wrap a).tmod 4 = (ya : Int) := va
  have vb4 : (IntKind.u64.wrap b).tmod 4 = (yb : Int) := vb
  have wa : IntKind.i64.wrap (ya : Int) = (ya : Int) := wrap_i64 (by omega) (by omega)
  have wb : IntKind.i64.wrap (yb : Int) = (yb : Int) := wrap_i64 (by omega) (by omega)
  have wm : IntKind.i64.wrap (2 + (ya : Int)) = (m : Int) := by rw [hm, wrap_i64 (by omega) (by omega)]; omega
  have wc : IntKind.i64.wrap (2 + (yb : Int)) = (c : Int) := by rw [hc, wrap_i64 (by omega) (by omega)]; omega
  have hm5 : m ≤ 5 := by omega
  have hc5 : c ≤ 5 := by omega
  have hm2 : 2 ≤ m := by omega
  have hc2 : 2 ≤ c := by omega
  have hpw := pw_le5 hc5 hm5
  have hr := dij_ok hm2 (by omega) hc2 (by omega) hpw
  have hs0 : ¬ sizeN m c = 0 := by
    rw [sizeN_in hm2 (by omega) hc2 (by omega), if_pos hpw]
    have := pw_pos (c := c) (by omega) m
    omega
  have cD := w_Dijkstra m c
  rw [if_neg hs0] at cD
  simp only [Int.toNat_natCast] at cD
  obtain ⟨r, hre⟩ : ∃ r, r = dijR m c := ⟨_, rfl⟩
  have hrm : r.m = m := by rw [hre]; rfl
  have hrc : r.c = c := by rw [hre]; rfl
  rw [← hre] at hr cD
  have cj := w_Judge r hr false
  have cj2 := w_Judge r hr true
  have hav : r.av = .agg [.int .i64 r.m, .int .i64 r.c, rowsA r.next] := rfl
  rw [hav] at cD cj cj2
  have caw := w_awake
  have wm1 : IntKind.i64.wrap ((m : Int) - 1) = (m : Int) - 1 := wrap_i64 (by omega) (by omega)
  simp
  intro b1 hb1
  simp
  refine awp_draw_text (by kernel_rfl) [] [] (by kernel_rfl) (by kernel_rfl) (by simp) ?_
  simp [va4, vb4, wa, wb, wm, wc]
  refine cD.use ?_
  simp
  intro b5 hb5
  simp at hb5
  simp [hb5]
  refine ACalls.mono (at_heap cj _) ?_
  rintro _ hx ⟨ehx, cd, at1, mo, ρ, L, rfl, hv, hρ1⟩
  rw [ehx]
  clear ehx hx
  simp [verdA, hρ1]
  intro b7 hb7
  simp at hb7
  simp [hb5, hb7, hρ1]
  by_cases hcm : m - 1 ≤ c
  · obtain ⟨f, ct⟩ := dij_cert hm2 hm5 hc2 hc5 hcm
    rw [← hre] at ct
    obtain rfl := ct.code hv
    have hcmI : (m : Int) - 1 ≤ (c : Int) := by omega
    simp [wm1, hcmI, hb5, hb7]
    by_cases h44 : m ≤ 4 ∧ c ≤ 4
    · have h44a : (m : Int) ≤ 4 := by omega
      have h44b : (c : Int) ≤ 4 := by omega
      simp [h44.1, h44.2, h44a, h44b, hb5, hb7]
      refine ACalls.mono (at_heap cj2 _) ?_
      rintro _ hx ⟨ehx, cd2, at2, mo2, ρ2, L2, rfl, hv2, hρ2⟩
      rw [ehx]
      clear ehx hx
      simp [verdA, hρ2]
      intro b9 hb9
      simp at hb9
      simp [hb5, hb7, hb9, hρ2]
      by_cases hz : cd2 = 0
      · subst hz
        obtain ⟨hcz, hle⟩ := hv2.joint hr hv
        have hleN : ¬ mo2 < mo := by omega
        have hleI : ¬ (mo2 : Int) < (mo : Int) := by omega
        simp [hb5, hb7, hb9, hleN, hleI, hcz]
        by_cases hm3 : m < 3
        · have hm3I : (m : Int) < 3 := by omega
          simp [hm3, hm3I]
          refine caw.use ?_
          simp
          exact finA_drop rfl
        · have hm3I : ¬ (m : Int) < 3 := by omega
          by_cases hm4 : 4 < m
          · have hm4I : 4 < (m : Int) := by omega
            simp [hm3, hm3I, hm4, hm4I]
            refine caw.use ?_
            simp
            exact finA_drop rfl
          · have hm4I : ¬ 4 < (m : Int) := by omega
            obtain ⟨f4, ct4⟩ := four_cert (m := m) (by omega) (by omega)
            have c4 := w_Four m
            rw [if_pos ⟨by omega, by omega⟩] at c4
            simp only [Int.toNat_natCast] at c4
            have cj4 := w_Judge (fourR m) ct4.ok false
            obtain ⟨q, hq⟩ : ∃ q, q = fourR m := ⟨_, rfl⟩
            rw [← hq] at c4 cj4 ct4
            have hqv : q.av = .agg [.int .i64 q.m, .int .i64 q.c, rowsA q.next] := rfl
            rw [hqv] at c4 cj4
            simp [hm3, hm3I, hm4, hm4I]
            refine c4.use ?_
            simp
            intro b11 hb11
            simp [hb5, hb7] at hb11
            simp [hb11, hb5, hb7]
            refine ACalls.mono (at_heap cj4 _) ?_
            rintro _ hx ⟨ehx, cd4, at4, mo4, ρ4, L4, rfl, hv4, hρ4⟩
            rw [ehx]
            clear ehx hx
            obtain rfl := ct4.code hv4
            simp [verdA, hρ4]
            intro b13 hb13
            simp at hb13
            simp [hb13, hρ4]
            refine caw.use ?_
            simp
            exact finA_drop rfl
      · have hzI : ¬ (cd2 : Int) = 0 := by omega
        simp [hb5, hb7, hb9, hz, hzI]
        by_cases hm3 : m < 3
        · have hm3I : (m : Int) < 3 := by omega
          simp [hm3, hm3I]
          refine caw.use ?_
          simp
          exact finA_drop rfl
        · have hm3I : ¬ (m : Int) < 3 := by omega
          by_cases hm4 : 4 < m
          · have hm4I : 4 < (m : Int) := by omega
            simp [hm3, hm3I, hm4, hm4I]
            refine caw.use ?_
            simp
            exact finA_drop rfl
          · have hm4I : ¬ 4 < (m : Int) := by omega
            obtain ⟨f4, ct4⟩ := four_cert (m := m) (by omega) (by omega)
            have c4 := w_Four m
            rw [if_pos ⟨by omega, by omega⟩] at c4
            simp only [Int.toNat_natCast] at c4
            have cj4 := w_Judge (fourR m) ct4.ok false
            obtain ⟨q, hq⟩ : ∃ q, q = fourR m := ⟨_, rfl⟩
            rw [← hq] at c4 cj4 ct4
            have hqv : q.av = .agg [.int .i64 q.m, .int .i64 q.c, rowsA q.next] := rfl
            rw [hqv] at c4 cj4
            simp [hm3, hm3I, hm4, hm4I]
            refine c4.use ?_
            simp
            intro b11 hb11
            simp [hb5, hb7] at hb11
            simp [hb11, hb5, hb7]
            refine ACalls.mono (at_heap cj4 _) ?_
            rintro _ hx ⟨ehx, cd4, at4, mo4, ρ4, L4, rfl, hv4, hρ4⟩
            rw [ehx]
            clear ehx hx
            obtain rfl := ct4.code hv4
            simp [verdA, hρ4]
            intro b13 hb13
            simp at hb13
            simp [hb13, hρ4]
            refine caw.use ?_
            simp
            exact finA_drop rfl
    · by_cases h4 : m ≤ 4
      · have h4I : (m : Int) ≤ 4 := by omega
        have h5 : ¬ c ≤ 4 := fun q => h44 ⟨h4, q⟩
        have h5I : ¬ (c : Int) ≤ 4 := by omega
        simp [h4, h4I, h5, h5I]
        by_cases hm3 : m < 3
        · have hm3I : (m : Int) < 3 := by omega
          simp [hm3, hm3I]
          refine caw.use ?_
          simp
          exact finA_drop rfl
        · have hm3I : ¬ (m : Int) < 3 := by omega
          by_cases hm4 : 4 < m
          · have hm4I : 4 < (m : Int) := by omega
            simp [hm3, hm3I, hm4, hm4I]
            refine caw.use ?_
            simp
            exact finA_drop rfl
          · have hm4I : ¬ 4 < (m : Int) := by omega
            obtain ⟨f4, ct4⟩ := four_cert (m := m) (by omega) (by omega)
            have c4 := w_Four m
            rw [if_pos ⟨by omega, by omega⟩] at c4
            simp only [Int.toNat_natCast] at c4
            have cj4 := w_Judge (fourR m) ct4.ok false
            obtain ⟨q, hq⟩ : ∃ q, q = fourR m := ⟨_, rfl⟩
            rw [← hq] at c4 cj4 ct4
            have hqv : q.av = .agg [.int .i64 q.m, .int .i64 q.c, rowsA q.next] := rfl
            rw [hqv] at c4 cj4
            simp [hm3, hm3I, hm4, hm4I]
            refine c4.use ?_
            simp
            intro b11 hb11
            simp [hb5, hb7] at hb11
            simp [hb11, hb5, hb7]
            refine ACalls.mono (at_heap cj4 _) ?_
            rintro _ hx ⟨ehx, cd4, at4, mo4, ρ4, L4, rfl, hv4, hρ4⟩
            rw [ehx]
            clear ehx hx
            obtain rfl := ct4.code hv4
            simp [verdA, hρ4]
            intro b13 hb13
            simp at hb13
            simp [hb13, hρ4]
            refine caw.use ?_
            simp
            exact finA_drop rfl
      · have h4I : ¬ (m : Int) ≤ 4 := by omega
        simp [h4, h4I]
        by_cases hm3 : m < 3
        · have hm3I : (m : Int) < 3 := by omega
          simp [hm3, hm3I]
          refine caw.use ?_
          simp
          exact finA_drop rfl
        · have hm3I : ¬ (m : Int) < 3 := by omega
          by_cases hm4 : 4 < m
          · have hm4I : 4 < (m : Int) := by omega
            simp [hm3, hm3I, hm4, hm4I]
            refine caw.use ?_
            simp
            exact finA_drop rfl
          · have hm4I : ¬ 4 < (m : Int) := by omega
            obtain ⟨f4, ct4⟩ := four_cert (m := m) (by omega) (by omega)
            have c4 := w_Four m
            rw [if_pos ⟨by omega, by omega⟩] at c4
            simp only [Int.toNat_natCast] at c4
            have cj4 := w_Judge (fourR m) ct4.ok false
            obtain ⟨q, hq⟩ : ∃ q, q = fourR m := ⟨_, rfl⟩
            rw [← hq] at c4 cj4 ct4
            have hqv : q.av = .agg [.int .i64 q.m, .int .i64 q.c, rowsA q.next] := rfl
            rw [hqv] at c4 cj4
            simp [hm3, hm3I, hm4, hm4I]
            refine c4.use ?_
            simp
            intro b11 hb11
            simp [hb5, hb7] at hb11
            simp [hb11, hb5, hb7]
            refine ACalls.mono (at_heap cj4 _) ?_
            rintro _ hx ⟨ehx, cd4, at4, mo4, ρ4, L4, rfl, hv4, hρ4⟩
            rw [ehx]
            clear ehx hx
            obtain rfl := ct4.code hv4
            simp [verdA, hρ4]
            intro b13 hb13
            simp at hb13
            simp [hb13, hρ4]
            refine caw.use ?_
            simp
            exact finA_drop rfl
  · have hcmI : ¬ (m : Int) - 1 ≤ (c : Int) := by omega
    simp [wm1, hcmI, hb5, hb7]
    by_cases h44 : m ≤ 4 ∧ c ≤ 4
    · have h44a : (m : Int) ≤ 4 := by omega
      have h44b : (c : Int) ≤ 4 := by omega
      simp [h44.1, h44.2, h44a, h44b, hb5, hb7]
      refine ACalls.mono (at_heap cj2 _) ?_
      rintro _ hx ⟨ehx, cd2, at2, mo2, ρ2, L2, rfl, hv2, hρ2⟩
      rw [ehx]
      clear ehx hx
      simp [verdA, hρ2]
      intro b9 hb9
      simp at hb9
      simp [hb5, hb7, hb9, hρ2]
      by_cases hz : cd2 = 0
      · subst hz
        obtain ⟨hcz, hle⟩ := hv2.joint hr hv
        have hleN : ¬ mo2 < mo := by omega
        have hleI : ¬ (mo2 : Int) < (mo : Int) := by omega
        simp [hb5, hb7, hb9, hleN, hleI, hcz]
        by_cases hm3 : m < 3
        · have hm3I : (m : Int) < 3 := by omega
          simp [hm3, hm3I]
          refine caw.use ?_
          simp
          exact finA_drop rfl
        · have hm3I : ¬ (m : Int) < 3 := by omega
          by_cases hm4 : 4 < m
          · have hm4I : 4 < (m : Int) := by omega
            simp [hm3, hm3I, hm4, hm4I]
            refine caw.use ?_
            simp
            exact finA_drop rfl
          · have hm4I : ¬ 4 < (m : Int) := by omega
            obtain ⟨f4, ct4⟩ := four_cert (m := m) (by omega) (by omega)
            have c4 := w_Four m
            rw [if_pos ⟨by omega, by omega⟩] at c4
            simp only [Int.toNat_natCast] at c4
            have cj4 := w_Judge (fourR m) ct4.ok false
            obtain ⟨q, hq⟩ : ∃ q, q = fourR m := ⟨_, rfl⟩
            rw [← hq] at c4 cj4 ct4
            have hqv : q.av = .agg [.int .i64 q.m, .int .i64 q.c, rowsA q.next] := rfl
            rw [hqv] at c4 cj4
            simp [hm3, hm3I, hm4, hm4I]
            refine c4.use ?_
            simp
            intro b11 hb11
            simp [hb5, hb7] at hb11
            simp [hb11, hb5, hb7]
            refine ACalls.mono (at_heap cj4 _) ?_
            rintro _ hx ⟨ehx, cd4, at4, mo4, ρ4, L4, rfl, hv4, hρ4⟩
            rw [ehx]
            clear ehx hx
            obtain rfl := ct4.code hv4
            simp [verdA, hρ4]
            intro b13 hb13
            simp at hb13
            simp [hb13, hρ4]
            refine caw.use ?_
            simp
            exact finA_drop rfl
      · have hzI : ¬ (cd2 : Int) = 0 := by omega
        simp [hb5, hb7, hb9, hz, hzI]
        by_cases hm3 : m < 3
        · have hm3I : (m : Int) < 3 := by omega
          simp [hm3, hm3I]
          refine caw.use ?_
          simp
          exact finA_drop rfl
        · have hm3I : ¬ (m : Int) < 3 := by omega
          by_cases hm4 : 4 < m
          · have hm4I : 4 < (m : Int) := by omega
            simp [hm3, hm3I, hm4, hm4I]
            refine caw.use ?_
            simp
            exact finA_drop rfl
          · have hm4I : ¬ 4 < (m : Int) := by omega
            obtain ⟨f4, ct4⟩ := four_cert (m := m) (by omega) (by omega)
            have c4 := w_Four m
            rw [if_pos ⟨by omega, by omega⟩] at c4
            simp only [Int.toNat_natCast] at c4
            have cj4 := w_Judge (fourR m) ct4.ok false
            obtain ⟨q, hq⟩ : ∃ q, q = fourR m := ⟨_, rfl⟩
            rw [← hq] at c4 cj4 ct4
            have hqv : q.av = .agg [.int .i64 q.m, .int .i64 q.c, rowsA q.next] := rfl
            rw [hqv] at c4 cj4
            simp [hm3, hm3I, hm4, hm4I]
            refine c4.use ?_
            simp
            intro b11 hb11
            simp [hb5, hb7] at hb11
            simp [hb11, hb5, hb7]
            refine ACalls.mono (at_heap cj4 _) ?_
            rintro _ hx ⟨ehx, cd4, at4, mo4, ρ4, L4, rfl, hv4, hρ4⟩
            rw [ehx]
            clear ehx hx
            obtain rfl := ct4.code hv4
            simp [verdA, hρ4]
            intro b13 hb13
            simp at hb13
            simp [hb13, hρ4]
            refine caw.use ?_
            simp
            exact finA_drop rfl
    · by_cases h4 : m ≤ 4
      · have h4I : (m : Int) ≤ 4 := by omega
        have h5 : ¬ c ≤ 4 := fun q => h44 ⟨h4, q⟩
        have h5I : ¬ (c : Int) ≤ 4 := by omega
        simp [h4, h4I, h5, h5I]
        by_cases hm3 : m < 3
        · have hm3I : (m : Int) < 3 := by omega
          simp [hm3, hm3I]
          refine caw.use ?_
          simp
          exact finA_drop rfl
        · have hm3I : ¬ (m : Int) < 3 := by omega
          by_cases hm4 : 4 < m
          · have hm4I : 4 < (m : Int) := by omega
            simp [hm3, hm3I, hm4, hm4I]
            refine caw.use ?_
            simp
            exact finA_drop rfl
          · have hm4I : ¬ 4 < (m : Int) := by omega
            obtain ⟨f4, ct4⟩ := four_cert (m := m) (by omega) (by omega)
            have c4 := w_Four m
            rw [if_pos ⟨by omega, by omega⟩] at c4
            simp only [Int.toNat_natCast] at c4
            have cj4 := w_Judge (fourR m) ct4.ok false
            obtain ⟨q, hq⟩ : ∃ q, q = fourR m := ⟨_, rfl⟩
            rw [← hq] at c4 cj4 ct4
            have hqv : q.av = .agg [.int .i64 q.m, .int .i64 q.c, rowsA q.next] := rfl
            rw [hqv] at c4 cj4
            simp [hm3, hm3I, hm4, hm4I]
            refine c4.use ?_
            simp
            intro b11 hb11
            simp [hb5, hb7] at hb11
            simp [hb11, hb5, hb7]
            refine ACalls.mono (at_heap cj4 _) ?_
            rintro _ hx ⟨ehx, cd4, at4, mo4, ρ4, L4, rfl, hv4, hρ4⟩
            rw [ehx]
            clear ehx hx
            obtain rfl := ct4.code hv4
            simp [verdA, hρ4]
            intro b13 hb13
            simp at hb13
            simp [hb13, hρ4]
            refine caw.use ?_
            simp
            exact finA_drop rfl
      · have h4I : ¬ (m : Int) ≤ 4 := by omega
        simp [h4, h4I]
        by_cases hm3 : m < 3
        · have hm3I : (m : Int) < 3 := by omega
          simp [hm3, hm3I]
          refine caw.use ?_
          simp
          exact finA_drop rfl
        · have hm3I : ¬ (m : Int) < 3 := by omega
          by_cases hm4 : 4 < m
          · have hm4I : 4 < (m : Int) := by omega
            simp [hm3, hm3I, hm4, hm4I]
            refine caw.use ?_
            simp
            exact finA_drop rfl
          · have hm4I : ¬ 4 < (m : Int) := by omega
            obtain ⟨f4, ct4⟩ := four_cert (m := m) (by omega) (by omega)
            have c4 := w_Four m
            rw [if_pos ⟨by omega, by omega⟩] at c4
            simp only [Int.toNat_natCast] at c4
            have cj4 := w_Judge (fourR m) ct4.ok false
            obtain ⟨q, hq⟩ : ∃ q, q = fourR m := ⟨_, rfl⟩
            rw [← hq] at c4 cj4 ct4
            have hqv : q.av = .agg [.int .i64 q.m, .int .i64 q.c, rowsA q.next] := rfl
            rw [hqv] at c4 cj4
            simp [hm3, hm3I, hm4, hm4I]
            refine c4.use ?_
            simp
            intro b11 hb11
            simp [hb5, hb7] at hb11
            simp [hb11, hb5, hb7]
            refine ACalls.mono (at_heap cj4 _) ?_
            rintro _ hx ⟨ehx, cd4, at4, mo4, ρ4, L4, rfl, hv4, hρ4⟩
            rw [ehx]
            clear ehx hx
            obtain rfl := ct4.code hv4
            simp [verdA, hρ4]
            intro b13 hb13
            simp at hb13
            simp [hb13, hρ4]
            refine caw.use ?_
            simp
            exact finA_drop rfl
end Go.Proofs
