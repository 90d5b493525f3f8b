/-
  Pair: the first best assignment, walked.
-/
import Derived.Test.YtkdhgablioljnaaPbN
set_option linter.unusedSimpArgs false
set_option linter.unusedVariables false
set_option linter.unusedSectionVars false
namespace Go.Proofs
open Go Go.AH
set_option maxRecDepth 10000
set_option maxHeartbeats 8000000

structure OO (m : Nat) (C : List (List Int)) : Prop where
  len : C.length = m
  ok : m = 0 ∨ OffOk C m
theorem OffOk.oo {C : List (List Int)} {n : Nat} (O : OffOk C n) : OO n C := ⟨O.len, .inr O⟩
theorem wo_oo {C : List (List Int)} {n j : Nat} (O : OffOk C (n + 1)) (hj : j < n + 1) : OO n (wo C j) := ⟨by simp [wo, O.len], wo_or O hj⟩
theorem OO.bound {m : Nat} {C : List (List Int)} (h : OO m C) : -12000000 ≤ optV m (cF C) ∧ optV m (cF C) ≤ 12000000 := by
  rcases h.ok with rfl | O
  · rw [opt_nil.val]; omega
  · obtain ⟨q, hq, e⟩ := (opt_has C m (.inr O)).has
    have hb := smF_bound (f := fun r => cF C r (q r)) (B := 1000000) (by omega) (k := m) (fun i hi => O.c i (q i) hi (hq.lt i hi))
    have := O.n1
    rw [← e]
    unfold aW
    omega
theorem partsL_ne {C : List (List Int)} {m : Nat} (O : OffOk C m) : partsL C = .sl m (partsC C) := by
  unfold partsL
  rw [if_neg (fun e => by have h1 := O.len; rw [e] at h1; have := O.n1; simp at h1; omega), O.len]
theorem w_mostL {C : List (List Int)} {m : Nat} (h : OO m C) : Pure Try.prog 55 [partsL C] (.int .i64 (optV m (cF C))) := by
  rcases h.ok with rfl | O
  · have : C = [] := List.eq_nil_of_length_eq_zero h.len
    rw [this, opt_nil.val]
    exact w_most0
  · rw [partsL_ne O]; exact w_most C m O
structure AZ where
  m : Nat
  C : List (List Int)
  free : List Int
  tl : List Int
  ps : List Int
  op : Option Nat
  bf : Nat
theorem del_free {free tl : List Int} {m j : Nat} (hf : free.length = m) (hj : j < m) : splice (intC (free ++ tl)) 0 (delL (((intC (free ++ tl)).drop 0).take m) j (j + 1)) = intC (free.eraseIdx j ++ (0 :: tl)) := by
  have e1 : ((intC (free ++ tl)).drop 0).take m = intC free := by
    rw [List.drop_zero]
    have : intC (free ++ tl) = intC free ++ intC tl := by simp [intC]
    rw [this, List.take_append_of_le_length (by simp [hf]), List.take_of_length_le (by simp [hf])]
  rw [e1]
  have e2 : delL (intC free) j (j + 1) = intC (free.eraseIdx j ++ [0]) := by
    unfold delL
    rw [List.eraseIdx_eq_take_drop_succ]
    simp [intC, List.map_take, List.map_drop]
  rw [e2]
  unfold splice
  have e3 : (intC (free.eraseIdx j ++ [0])).length = m := by simp [List.length_eraseIdx_of_lt (show j < free.length by omega)]; omega
  rw [e3, List.take_zero, List.nil_append, Nat.zero_add]
  have e4 : (intC (free ++ tl)).drop m = intC tl := by
    have : intC (free ++ tl) = intC free ++ intC tl := by simp [intC]
    rw [this, List.drop_append, List.drop_of_length_le (by simp [hf]), List.nil_append]
    simp [hf]
  rw [e4]
  simp [intC]
theorem w_Assign (C0 : List (List Int)) (n : Nat) (O0 : OffOk C0 n) : Pure Try.prog 13 [.sl n (partsC C0)] (.tup [intL (gB n C0 ((List.range n).map fun i : Nat => (i : Int))), .int .i64 (optV n (cF C0)), .int .i64 0]) := by
  refine pure_of (acalls_of Try.func13 rfl Try.call13 (by kernel_rfl) (by show _ ≤ (77 : Nat); simp) ?_)
  have n1 := O0.n1
  have cc := w_checkOffer C0 (by rw [O0.len]; omega) (fun r hr => by rw [O0.rows r hr]; omega)
  rw [O0.len, O0.chk] at cc
  have cm := w_most C0 n O0
  obtain ⟨W, hW⟩ : ∃ W, W = optV n (cF C0) := ⟨_, rfl⟩
  obtain ⟨fr, hfr⟩ : ∃ fr : Nat → List Int, fr = fun k => (List.range k).map fun i : Nat => (i : Int) := ⟨_, rfl⟩
  obtain ⟨R, hR⟩ : ∃ R, R = gB n C0 (fr n) := ⟨_, rfl⟩
  rw [show (List.range n).map (fun i : Nat => (i : Int)) = fr n from by rw [hfr], ← hR]
  rw [← hW] at cm ⊢
  have fr0 : fr 0 = [] := by rw [hfr]; rfl
  have frl : ∀ k, (fr k).length = k := fun k => by rw [hfr]; simp
  have frs : ∀ k : Nat, fr (k + 1) = fr k ++ [(k : Int)] := fun k => by rw [hfr]; simp [List.range_succ]
  simp
  refine cc.use ?_
  simp
  refine cm.use ?_
  simp
  refine awp_loop_g (γ := At) (fun z t h => (z.i ≤ n) ∧ (z.o = none ↔ z.i = 0) ∧ t 2 = .nilsl ∧ t 3 = .int .i64 W ∧ t 6 = .sl n (partsC C0) ∧ t 7 = .int .i64 W ∧ t 8 = ownV z.o z.i 1 ∧ t 22 = .int .i64 n ∧ t 23 = .int .i64 z.i ∧ h = AHeap.empty.updO z.o (intC (fr z.i))) (fun z => n - z.i) (⟨0, none⟩) (turnA_self (by simp [fr0, intC])) ?_
  rintro z t hx ⟨hi, ho, h2, h3, h6, h7, h8, h22, h23, ex⟩
  obtain ⟨i, o⟩ := z
  simp only at h2 h3 h6 h7 h8 h22 h23 hi ho ex
  rw [ex]
  clear ex
  by_cases hlt : i < n
  · have hltI : (i : Int) < (n : Int) := by omega
    have hwi : IntKind.i64.wrap ((i : Int) + 1) = (i : Int) + 1 := wrap_i64 (by omega) (by omega)
    simp [h2, h3, h6, h7, h8, h22, h23, hlt, hltI]
    intro bn hbn
    simp at hbn
    simp [h2, h3, h6, h7, h8, h22, h23, hbn]
    refine appendA_updO (by omega) (by omega) (fun e => by have := ho.1 e; subst this; rw [fr0]; rfl) (by simp [frl]) (by simp) (by simp [hbn]) fun b' hb' => ?_
    simp at hb'
    have hts : intC (fr i) ++ [.int .i64 (i : Int)] = intC (fr (i + 1)) := by rw [frs]; simp [intC]
    rw [hts]
    simp [h2, h3, h6, h7, h8, h22, h23, hb', hbn]
    refine turnA_to (AHeap.empty.updO (some b') (intC (fr (i + 1)))) ?_ ⟨⟨i + 1, some b'⟩, by simp only; omega, by simp only; omega, by simp, by simp [h2, h3, h6, h7, h8, h22, h23, hwi]⟩
    simp
    exact Drop.both (Drop.new (Drop.refl _) (by simp [AHeap.empty]))
  have hiE : i = n := by omega
  rw [hiE] at ho h8 h23
  rw [hiE]
  cases o with
  | none => exact absurd (ho.1 rfl) (by omega)
  | some bf0 =>
    simp [h2, h3, h6, h7, h8, h22, h23]
    refine awp_loop_g (γ := AZ) (fun z t h => (OO z.m z.C) ∧ (z.free.length = z.m) ∧ (R = z.ps ++ gB z.m z.C z.free) ∧ (z.ps.length + z.m = n) ∧ ((z.op = none ↔ z.ps = []) ∧ ¬ z.op = some z.bf) ∧ t 2 = ownV z.op z.ps.length 1 ∧ t 3 = .int .i64 W ∧ t 6 = partsL z.C ∧ t 7 = .int .i64 (optV z.m (cF z.C)) ∧ t 8 = .osl z.bf 0 z.m 1 ∧ h = (AHeap.empty.upd z.bf (.cells (intC (z.free ++ z.tl)))).updO z.op (intC z.ps)) (fun z => z.m) (⟨n, C0, fr n, [], [], none, bf0⟩) (turnA_self ⟨O0.oo, frl n, by simp [hR], by simp [hW], by simp, by simp [h2, h3, h6, h7, h8, h22, h23, partsL_ne O0, hW]⟩) ?_
    rintro z t hy ⟨hO, hfl, hRs, hdu, hop, h2, h3, h6, h7, h8, ey⟩
    obtain ⟨m, C, free, tl, ps, op, bf⟩ := z
    simp only at h2 h3 h6 h7 h8 hO hfl hRs hdu hop ey
    rw [ey]
    clear ey
    obtain ⟨op1, op2⟩ := hop
    cases m with
    | zero =>
      have hC : C = [] := List.eq_nil_of_length_eq_zero hO.len
      have hpn : ps = R := by rw [hRs]; simp [gB]
      have hpl : partsL C = .nilsl := by rw [hC]; rfl
      simp [h2, h3, h6, h7, h8, hpl]
      cases op with
      | none =>
        have h1 := op1.1 rfl
        rw [h1] at hdu
        simp at hdu
        omega
      | some b =>
        refine finA_all 3 ?_
        have hne : ps ≠ [] := fun e => nomatch op1.2 e
        rw [frz_tup]
        simp only [List.map_cons, List.map_nil, frz_int, ownV_some]
        rw [frz_osl (by simp)]
        simp [intL, hne, ← hpn]
        rw [map_frozen intC_frozen]
        exact List.take_of_length_le (by simp)
    | succ m =>
      have O : OffOk C (m + 1) := hO.ok.resolve_left (by omega)
      have F := fJ_ok O
      have hpL := partsL_ne O
      have hm1 := O.n1
      have hpl : (partsC C).length = m + 1 := by simp [partsC, O.len]
      obtain ⟨M, hM⟩ : ∃ M, M = m + 1 := ⟨_, rfl⟩
      have hMI : (0 : Int) < (M : Int) := by omega
      have hM0 : 0 < M := by omega
      rw [hpL] at h6
      rw [← hM] at O hfl hdu hpl hm1 h6 h7 h8
      obtain ⟨due, hdue⟩ : ∃ due, due = optV (m + 1) (cF C) := ⟨_, rfl⟩
      rw [hM, ← hdue] at h7
      have bd := hO.bound
      rw [← hdue] at bd
      obtain ⟨Fl, Fe, Ff⟩ := F
      rw [← hdue] at Fe
      have Ff : ∀ k, k < fJ m C → ¬ cF C 0 k + optV m (cF (wo C k)) = due := fun k hk => by rw [hdue]; exact Ff k hk
      have O' : OffOk C (m + 1) := hM ▸ O
      simp [h2, h3, h6, h7, h8, hMI, hM0]
      refine awp_loop_g (γ := Nat) (fun j t h => (j ≤ fJ m C) ∧ t 2 = ownV op ps.length 1 ∧ t 3 = .int .i64 W ∧ t 6 = .sl M (partsC C) ∧ t 7 = .int .i64 due ∧ t 8 = .osl bf 0 M 1 ∧ t 35 = .int .i64 M ∧ t 36 = .int .i64 j ∧ h = (AHeap.empty.upd bf (.cells (intC (free ++ tl)))).updO op (intC ps)) (fun j => M - j) (0) (turnA_self ⟨by omega, by simp [h2, h3, h6, h7, h8]⟩) ?_
      rintro j t hy ⟨hj, h2, h3, h6, h7, h8, h35, h36, ey⟩
      rw [ey]
      clear ey
      have hjM : j < M := by omega
      have hjMI : (j : Int) < (M : Int) := by omega
      have hwj : IntKind.i64.wrap ((j : Int) + 1) = (j : Int) + 1 := wrap_i64 (by omega) (by omega)
      have cw := w_without C M O j hjM
      have hoo := wo_oo O' (show j < m + 1 by omega)
      have cmo := w_mostL hoo
      have bo := hoo.bound
      obtain ⟨vj, hvj⟩ : ∃ vj, vj = optV m (cF (wo C j)) := ⟨_, rfl⟩
      rw [← hvj] at cmo bo
      obtain ⟨row, hr1, hr2, hr3⟩ := O.row (i := 0) (by omega)
      have hat := partsC_row hr1
      simp only [List.drop_zero] at hat
      obtain ⟨rest, hrest⟩ : ∃ rest, rest = (partsC C).drop (0 + 1) := ⟨_, rfl⟩
      rw [← hrest] at hat
      have hgc := intC_at (hr3 j hjM)
      have hjl : j < row.length := by omega
      have bc := O.c 0 j (by omega) hjM
      have w1 : IntKind.i64.wrap (cF C 0 j + vj) = cF C 0 j + vj := wrap_i64 (by omega) (by omega)
      simp [h2, h3, h6, h7, h8, h35, h36, hjM, hjMI]
      refine cw.use ?_
      simp [h2, h3, h6, h7, h8, h35, h36]
      refine awp_draw_text (by kernel_rfl) [49] [(.fn (.func 55) [] [], [partsL (wo C j)], .int .i64 vj)] (by kernel_rfl) (by kernel_rfl) (by simp; exact PureV.of cmo) ?_
      have hrl : rest.length + 1 = M := by have := congrArg List.length hat; simp [hpl] at this; omega
      rw [hat] at h6
      simp [h2, h3, h6, h7, h8, h35, h36, hM0, hgc, hjl, w1, hr2, hjM, hjMI]
      by_cases hit : cF C 0 j + vj = due
      rotate_left
      · have hjf : j < fJ m C := by
          refine Nat.lt_of_le_of_ne hj fun e => hit ?_
          rw [hvj, e]; exact Fe
        simp [h2, h3, h6, h7, h8, h35, h36, hit]
        exact turnA_self ⟨j + 1, by omega, by omega, by simp [h2, h3, h6, h7, h8, h35, h36, hwj, hat]⟩
      have hjf : j = fJ m C := by
        rcases Nat.lt_or_ge j (fJ m C) with q | q
        · exact absurd (by rw [← hvj]; exact hit) (Ff j q)
        · omega
      have hfj : j < (free ++ tl).length := by simp; omega
      have haf := intC_at (lF_get hfj)
      have hlf : lF (free ++ tl) j = lF free j := by unfold lF; rw [List.getElem?_append_left (by omega)]
      rw [hlf] at haf
      have w2 : IntKind.i64.wrap (due - cF C 0 j) = vj := by rw [show due - cF C 0 j = vj from by omega]; exact wrap_i64 (by omega) (by omega)
      simp [h2, h3, h6, h7, h8, h35, h36, hit, op2, hjM, hjMI, haf]
      intro b58 hb58
      simp at hb58
      simp [h2, h3, h6, h7, h8, h35, h36, hb58, op2]
      obtain ⟨x, hx⟩ : ∃ x, x = lF free j := ⟨_, rfl⟩
      rw [← hx]
      have hpsl : ps.length ≤ 12 := by omega
      refine appendA_updO (n := ps.length) (k := 1) (es := 1) Nat.zero_lt_one (by omega) (fun e => by rw [op1.1 e]; rfl) (by simp) Nat.zero_lt_one (freshO_of fun y e => by
        have e1 : ¬ bf = y := fun q => op2 (q ▸ e)
        have e2 : ¬ b58 = y := fun q => hb58.1 (q ▸ e)
        simp [e1, e2, Ne.symm e1, Ne.symm e2]) fun b' hb' => ?_
      simp [hb58] at hb'
      have hts : intC ps ++ [.int .i64 x] = intC (ps ++ [x]) := by simp [intC]
      rw [hts]
      simp [h2, h3, h6, h7, h8, h35, h36, hM0, hgc, hjl, hr2, w2, hjM, hjMI, hb', hb58, hwj]
      have hcc : (((AHeap.empty.upd bf (.cells (intC (free ++ tl)))).upd b58 (.cells [.int .i64 x])).upd b' (.cells (intC (ps ++ [x])))) bf = some (.cells (intC (free ++ tl))) := by simp [AHeap.upd, hb', hb58]
      have hd := del_int _ bf 0 M j (j + 1) (intC (free ++ tl)) hcc (by simp; omega) (fun y hy => by
        have hy := List.mem_of_mem_drop (List.mem_of_mem_take hy)
        obtain ⟨z, _, rfl⟩ := List.mem_map.1 hy
        rfl) (by omega) (by omega)
      rw [del_free hfl hjM, show M - (j + 1 - j) = m from by omega, show ((j + 1 : Nat) : Int) = (j : Int) + 1 from by omega] at hd
      refine ACalls.mono hd ?_
      rintro _ _ ⟨rfl, rfl⟩
      simp [h2, h3, h6, h7, h8, h35, h36, hb', hb58]
      refine turnA_to ((AHeap.empty.upd bf (.cells (intC (free.eraseIdx j ++ 0 :: tl)))).updO (some b') (intC (ps ++ [x]))) ?_ ⟨⟨m, wo C j, free.eraseIdx j, 0 :: tl, ps ++ [x], some b', bf⟩, by simp only; omega, hoo, ?_, ?_, ?_, ?_, ?_⟩
      · simp
        exact Drop.both (Drop.new (Drop.refl _) (by simp [AHeap.upd, hb58, AHeap.empty]))
      · simp only
        rw [List.length_eraseIdx_of_lt (by omega)]; omega
      · simp only
        rw [hRs, gB_succ, ← hjf, ← hx]
        simp
      · simp only [List.length_append, List.length_singleton]; omega
      · simp [hb']
      · simp [h2, h3, h6, h7, h8, h35, h36, hvj]
end Go.Proofs
