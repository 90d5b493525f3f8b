/-
  Pair: the law on worth, walked.
-/
import Derived.Test.YtkdhgablioljnaaPbP
set_option linter.unusedSimpArgs false
set_option linter.unusedVariables false
set_option linter.unusedSectionVars false
namespace Go.Proofs
open Go Go.AH
set_option maxRecDepth 10000
set_option maxHeartbeats 8000000

structure GZ where
  i : Nat
  g : Nat → Int
theorem w_PairWorth (l : List (List Int)) (hl : l.length ≤ 4611686018427387904) (hr : ∀ r ∈ l, r.length ≤ 4611686018427387904) (po : List Int) (hpo : po.length ≤ 4611686018427387904) :
    Pure Try.prog 5 [.sl l.length (partsC l), intS po] (.bool true) := by
  refine pure_of (acalls_of Try.func5 rfl Try.call5 (by kernel_rfl) (by show _ ≤ (176 : Nat); simp) ?_)
  obtain ⟨n, hn⟩ : ∃ n, n = max 1 (min l.length 9) := ⟨_, rfl⟩
  have n1 : 1 ≤ n ∧ n ≤ 12 := by omega
  have co := l_offer l 9 n hl hr (by omega) hn
  obtain ⟨C, hC⟩ : ∃ C, C = offE l n := ⟨_, rfl⟩
  have O : OffOk C n := by rw [hC]; exact offE_ok n1
  rw [← hC] at co
  have cA := w_Assign C n O
  obtain ⟨ps, hps⟩ : ∃ ps, ps = gB n C ((List.range n).map fun i : Nat => (i : Int)) := ⟨_, rfl⟩
  obtain ⟨hpl, q, hq, hqr, hqw⟩ := gB_asg n C ((List.range n).map fun i : Nat => (i : Int)) O.oo (by simp)
  rw [← hps] at cA hpl hqr
  obtain ⟨W, hW⟩ : ∃ W, W = optV n (cF C) := ⟨_, rfl⟩
  rw [← hW] at cA hqw
  have hqv : ∀ r, r < n → ps[r]? = some (q r : Int) := fun r hr => by rw [hqr r hr]; have := hq.lt r hr; simp [this]
  have bW := O.oo.bound
  rw [← hW] at bW
  have hpne : ps ≠ [] := fun e => by rw [e] at hpl; simp at hpl; omega
  have hpV : intL ps = .sl n (intC ps) := by unfold intL; rw [if_neg hpne, hpl]
  rw [hpV] at cA
  have hpC : (partsC C).length = n := by simp [partsC, O.len]
  unfold intS
  simp
  refine co.use ?_
  simp
  refine cA.use ?_
  simp
  refine ACalls.mono (w_PricesH C n O AHeap.empty) ?_
  rintro _ _ ⟨bu, bv, fu, fv, fp, hne, hbu, hbv, hB, rfl, rfl⟩
  have hne2 : ¬ bv = bu := fun e => hne e.symm
  obtain ⟨H, hH⟩ : ∃ H, H = (AHeap.empty.upd bu (.cells (iarr n fu))).upd bv (.cells (iarr n fv)) := ⟨_, rfl⟩
  have du : H bu = some (.cells (iarr n fu)) := by rw [hH]; simp [AHeap.upd, hne]
  have dv : H bv = some (.cells (iarr n fv)) := by rw [hH]; simp [AHeap.upd]
  have cu : ∀ off, cellsAt H bu off = some ((iarr n fu).drop off) := fun off => cellsAt_eq du
  have cv : ∀ off, cellsAt H bv off = some ((iarr n fv).drop off) := fun off => cellsAt_eq dv
  rw [← hH]
  have p1 := l_ArePricesO C n O fu fv bu bv H du dv W
  have p2 := l_ArePricesO C n O fu fv bu bv H du dv (W - 1)
  rw [prices_yes O hB, ← hW] at p1 p2
  have wW : IntKind.i64.wrap (W - 1) = W - 1 := wrap_i64 (by omega) (by omega)
  have nW : ¬ W - 1 = W := by omega
  simp
  refine p1.use ?_
  simp [wW]
  refine p2.use ?_
  simp [nW]
  obtain ⟨S, hS⟩ : ∃ S : Nat → Int, S = smF (fun r => cF C r (q r)) := ⟨_, rfl⟩
  have S0 : S 0 = 0 := by rw [hS]; rfl
  have Ss : ∀ k, S (k + 1) = S k + cF C k (q k) := fun k => by rw [hS]; rfl
  have Sn : S n = W := by rw [hS]; exact hqw
  have Sb : ∀ k, k ≤ n → -(1000000 * (k : Int)) ≤ S k ∧ S k ≤ 1000000 * k := fun k hk => by
    rw [hS]
    exact smF_bound (by omega) fun i hi => O.c i (q i) (by omega) (hq.lt i (by omega))
  have ti := tight_of hB.feas hq (by rw [hqw, hW, hB.opt.val])
  refine awp_loop_g (γ := Nat) (fun i t h => (i ≤ n) ∧ t 1 = .sl po.length (intC po) ∧ t 5 = .sl n (partsC C) ∧ t 6 = .sl n (intC ps) ∧ t 7 = .int .i64 W ∧ t 9 = .osl bu 0 n 1 ∧ t 10 = .osl bv 0 n 1 ∧ t 12 = .int .i64 (S i) ∧ t 13 = .int .i64 i ∧ h = H) (fun i => n - i) (0) (turnA_self (by simp [S0])) ?_
  rintro i t hx ⟨hi, h1, h5, h6, h7, h9, h10, h12, h13, ex⟩
  rw [ex]
  clear ex
  by_cases hin : i < n
  · have hinI : (i : Int) < (n : Int) := by omega
    have hwi : IntKind.i64.wrap ((i : Int) + 1) = (i : Int) + 1 := wrap_i64 (by omega) (by omega)
    have hqi := hq.lt i hin
    have hqI : (q i : Int) < (n : Int) := by omega
    have hap := intC_at (hqv i hin)
    obtain ⟨row, hr1, hr2, hr3⟩ := O.row hin
    have hat := partsC_row hr1
    have hgc := intC_at (hr3 (q i) hqi)
    have hjl : q i < row.length := by omega
    have bU := hB.bnd.u i hin
    have bV := hB.bnd.v (q i) hqi
    have tii := ti i hin
    have bC := O.c i (q i) hin hqi
    have sbi := Sb i hi
    have ssi := Ss i
    have w1 : IntKind.i64.wrap (fu i + fv (q i)) = cF C i (q i) := by rw [tii]; exact wrap_i64 (by omega) (by omega)
    have w2 : IntKind.i64.wrap (S i + cF C i (q i)) = S (i + 1) := by rw [ssi]; exact wrap_i64 (by omega) (by omega)
    simp [h1, h5, h6, h7, h9, h10, h12, h13, hin, hinI]
    refine awp_draw_text (by kernel_rfl) [] [] (by kernel_rfl) (by kernel_rfl) (by simp) ?_
    simp [h1, h5, h6, h7, h9, h10, h12, h13, hin, hinI, cu, cv, iarr_dr hin, iarr_dr hqi, hap, hpl, hat, hpC, hr2, hgc, hjl, hqi, hqI, w1]
    refine awp_draw_text (by kernel_rfl) [] [] (by kernel_rfl) (by kernel_rfl) (by simp) ?_
    simp [h1, h5, h6, h7, h9, h10, h12, h13, hin, hinI, hap, hpl, hat, hpC, hr2, hgc, hjl, hqi, hqI, w2]
    exact turnA_self ⟨i + 1, by omega, by omega, by simp [h1, h5, h6, h7, h9, h10, h12, h13, hwi]⟩
  have hiE : i = n := by omega
  rw [hiE, Sn] at h12
  rw [hiE] at h13
  have hx1 : (intC ps).take n = intC ps := List.take_of_length_le (by simp [hpl])
  have hn0 : ¬ n = 0 := by omega
  simp [h1, h5, h6, h7, h9, h10, h12, h13, hiE, hpl, hx1, hn0]
  refine ⟨by omega, fun bq hbq => ?_⟩
  have hg0 : intC ps = iarr n fun r => (q r : Int) := by
    refine List.ext_getElem (by simp [hpl]) fun i h1 h2 => ?_
    have h3 : i < n := by simpa [hpl] using h1
    have := hqv i h3
    rw [List.getElem?_eq_getElem (by omega)] at this
    simp only [Option.some.injEq] at this
    simp [intC, iarr, this]
  rw [hg0]
  have A0 : AsgI n fun r => (q r : Int) := ⟨fun r hr => ⟨q r, hq.lt r hr, rfl⟩, fun r s hr hs e => hq.inj r s hr hs (by have e : (q r : Int) = (q s : Int) := e; omega)⟩
  simp [h1, h5, h6, h7, h9, h10, h12, h13]
  refine loop_cut (fun t hq => ∃ g : Nat → Int, (AsgI n g) ∧ t 5 = .sl n (partsC C) ∧ t 7 = .int .i64 W ∧ t 12 = .int .i64 W ∧ t 14 = .osl bq 0 n 1 ∧ hq = H.upd bq (.cells (iarr n g))) ?_ ?_
  · refine awp_loop_g (γ := GZ) (fun z t h => (z.i ≤ po.length ∧ z.i ≤ 20) ∧ (AsgI n z.g) ∧ t 1 = .sl po.length (intC po) ∧ t 5 = .sl n (partsC C) ∧ t 7 = .int .i64 W ∧ t 12 = .int .i64 W ∧ t 14 = .osl bq 0 n 1 ∧ t 15 = .int .i64 z.i ∧ h = H.upd bq (.cells (iarr n z.g))) (fun z => po.length - z.i) (⟨0, fun r => (q r : Int)⟩) (turnA_self ⟨by simp, A0, by simp [h1, h5, h6, h7, h9, h10, h12, h13]⟩) ?_
    rintro z t hx ⟨hk, hA, h1, h5, h7, h12, h14, h15, ex⟩
    obtain ⟨i, g⟩ := z
    simp only at h1 h5 h7 h12 h14 h15 hk hA ex
    rw [ex]
    clear ex
    by_cases c1 : i < po.length
    rotate_left
    · have c1I : ¬ (i : Int) < (po.length : Int) := by omega
      simp [h1, h5, h7, h12, h14, h15, c1, c1I]
      exact ⟨g, hA, rfl⟩
    have c1I : (i : Int) < (po.length : Int) := by omega
    by_cases c2 : i < 20
    rotate_left
    · have c2I : ¬ (i : Int) < 20 := by omega
      simp [h1, h5, h7, h12, h14, h15, c1, c1I, c2, c2I]
      exact ⟨g, hA, rfl⟩
    have c2I : (i : Int) < 20 := by omega
    have hwi : IntKind.i64.wrap ((i : Int) + 1) = (i : Int) + 1 := wrap_i64 (by omega) (by omega)
    obtain ⟨x, hx⟩ : ∃ x, po[i]? = some x := ⟨_, List.getElem?_eq_getElem c1⟩
    have hax := intC_at hx
    have ux := u64_nonneg x
    have hnI : ¬ (n : Int) = 0 := by omega
    obtain ⟨b, hb⟩ : ∃ b : Nat, IntKind.u64.wrap x % (n : Int) = b := ⟨(IntKind.u64.wrap x % (n : Int)).toNat, by have := Int.emod_nonneg (IntKind.u64.wrap x) hnI; omega⟩
    have hbn : b < n := by have := Int.emod_lt_of_pos (IntKind.u64.wrap x) (show (0 : Int) < (n : Int) by omega); omega
    have hbI : (b : Int) < (n : Int) := by omega
    obtain ⟨a, ha⟩ : ∃ a : Nat, a = i % n := ⟨_, rfl⟩
    have han : a < n := by rw [ha]; exact Nat.mod_lt _ (by omega)
    have haI : (a : Int) < (n : Int) := by omega
    have un : IntKind.u64.wrap (n : Int) = n := wrap_u64 (by omega) (by omega)
    have tb : (IntKind.u64.wrap x).tmod (n : Int) = b := by rw [Int.tmod_eq_emod_of_nonneg ux.1, hb]
    have tA : (i : Int).tmod (n : Int) = a := by rw [Int.tmod_eq_emod_of_nonneg (by omega), ha]; omega
    have wb : IntKind.i64.wrap (b : Int) = b := wrap_i64 (by omega) (by omega)
    have wa : IntKind.i64.wrap (a : Int) = a := wrap_i64 (by omega) (by omega)
    simp [h1, h5, h7, h12, h14, h15, c1, c1I, c2, c2I]
    refine awp_draw_text (by kernel_rfl) [] [] (by kernel_rfl) (by kernel_rfl) (by simp) ?_
    simp [h1, h5, h7, h12, h14, h15, c1, c1I, hax, un, tb, tA, wb, wa, hnI, hn0, han, haI, hbn, hbI, iarr_dr han, iarr_dr hbn, splice_one, iarr_set]
    exact ⟨by omega, by omega, turnA_self ⟨⟨i + 1, upf (upf g a (g b)) b (g a)⟩, by simp only; omega, ⟨by simp only; omega, by simp only; omega⟩, hA.swap han hbn, by simp [h1, h5, h7, h12, h14, h15, hwi]⟩⟩
  intro t hq ⟨g, hA, h5, h7, h12, h14, ehq⟩
  rw [ehq]
  clear ehq
  have hAs := hA.asg
  have hle := O.oo.len
  have hopt := (opt_has C n (.inr O)).all _ hAs
  rw [← hW] at hopt
  obtain ⟨S2, hS2⟩ : ∃ S2 : Nat → Int, S2 = smF (fun r => cF C r (g r).toNat) := ⟨_, rfl⟩
  have S20 : S2 0 = 0 := by rw [hS2]; rfl
  have S2s : ∀ k, S2 (k + 1) = S2 k + cF C k (g k).toNat := fun k => by rw [hS2]; rfl
  have S2n : S2 n ≤ W := by rw [hS2]; exact hopt
  have S2b : ∀ k, k ≤ n → -(1000000 * (k : Int)) ≤ S2 k ∧ S2 k ≤ 1000000 * k := fun k hk => by
    rw [hS2]
    exact smF_bound (by omega) fun i hi => O.c i _ (by omega) (hAs.lt i (by omega))
  simp [h5, h7, h12, h14]
  refine awp_loop_g (γ := Nat) (fun i t h => (i ≤ n) ∧ t 5 = .sl n (partsC C) ∧ t 7 = .int .i64 W ∧ t 12 = .int .i64 W ∧ t 14 = .osl bq 0 n 1 ∧ t 19 = .int .i64 (S2 i) ∧ t 20 = .int .i64 i ∧ h = H.upd bq (.cells (iarr n g))) (fun i => n - i) (0) (turnA_self (by simp [S20, h5, h7, h12, h14])) ?_
  rintro i t hx ⟨hi, h5, h7, h12, h14, h19, h20, ex⟩
  rw [ex]
  clear ex
  by_cases hin2 : i < n
  · have hinI : (i : Int) < (n : Int) := by omega
    have hwi : IntKind.i64.wrap ((i : Int) + 1) = (i : Int) + 1 := wrap_i64 (by omega) (by omega)
    obtain ⟨j, hjn, hgj⟩ := hA.lt i hin2
    have hjI : (j : Int) < (n : Int) := by omega
    obtain ⟨row, hr1, hr2, hr3⟩ := O.row hin2
    have hat := partsC_row hr1
    have hgc := intC_at (hr3 j hjn)
    have hjl : j < row.length := by omega
    have bC := O.c i j hin2 hjn
    have sbi := S2b i hi
    have ssi := S2s i
    rw [hgj, Int.toNat_natCast] at ssi
    have w2 : IntKind.i64.wrap (S2 i + cF C i j) = S2 (i + 1) := by rw [ssi]; exact wrap_i64 (by omega) (by omega)
    simp [h5, h7, h12, h14, h19, h20, hin2, hinI]
    refine awp_draw_text (by kernel_rfl) [] [] (by kernel_rfl) (by kernel_rfl) (by simp) ?_
    simp [h5, h7, h12, h14, h19, h20, hin2, hinI, iarr_dr hin2, hgj, hat, hpC, hr2, hgc, hjl, hjn, hjI, w2]
    exact turnA_self ⟨i + 1, by omega, by omega, by simp [h5, h7, h12, h14, h19, h20, hwi]⟩
  have hiE : i = n := by omega
  rw [hiE] at h19 h20
  simp [h5, h7, h12, h14, h19, h20, S2n]
  refine w_awake.use ?_
  simp [h5, h7, h12, h14, h19, h20]
  exact finA_drop rfl
end Go.Proofs
