/-
  The law FlowApart.
-/
import Derived.Test.YtpnikgfpcgaboaaFlT8
import Derived.Test.YtpnikgfpcgaboaaFlX3
import Derived.Test.YtpnikgfpcgaboaaFlAwk
set_option linter.unusedSimpArgs false
set_option linter.unusedVariables false
set_option linter.unusedSectionVars false
namespace Go.Proofs
open Go Go.AH
set_option maxRecDepth 10000
set_option maxHeartbeats 4000000

theorem w_FlowApart (x : RNet) (hs : x.arcs.length ≤ 4611686018427387904) (a b : Int) (VW : AV) (rows0 : List AV) (ways : List (List Int)) (hVW : RowsIs VW rows0 ways) (hwl : ways.length ≤ 18000000000000) (hrl : ∀ w ∈ ways, w.length ≤ 18000000000000) : Pure Try.prog 7 [x.av, .agg [.int .i64 a, .int .i64 b], VW] (.bool true) := by
  refine pure_of (acalls_of Try.func7 rfl Try.call7 (by kernel_rfl) (by show _ ≤ (197 : Nat); simp) ?_)
  have ct := w_tame x hs 8 18 (by omega) (by omega)
  have hP2 := tameP_le x.n 8 (by omega)
  obtain ⟨P, hP⟩ : ∃ P, P = tameP x.n 8 := ⟨_, rfl⟩
  rw [← hP] at ct hP2
  have O := tame_ok (P := P) (by omega) x.arcs 18 (by omega)
  obtain ⟨R, hR⟩ : ∃ R, R = tameArcs P x.arcs 18 := ⟨_, rfl⟩
  rw [← hR] at ct O
  have hRl : R.length ≤ 200 := O.len
  obtain ⟨s, T, hs2, hT2, hst, ce⟩ := w_ends P (by omega) a b
  have cn := l_net P R (by omega)
  have c1 := l_Ones P R (by omega)
  have cap := w_ApartO P R O s T hs2 hT2 hst
  have cl := fun (n : Int) (m : Nat) h => l_Least P (onesL R) (ones_ok O) (ArcsV.l (onesL R)) s T hs2 hT2 n m h
  have cr := fun (out : List Nat) h1 In h2 h3 h4 => l_Reaches P R O s T hs2 out h1 In h2 h3 h4
  have ca := fun V rows ws h h1 h2 => l_AreApart P R O s T hs2 hT2 hst V rows ws h h1 h2
  have cb := fun V rows ws h h1 h2 => w_AreApart P R O s T hs2 hT2 hst V rows ws h h1 h2
  unfold netV at ct cn c1 cap
  simp only [netV] at cr ca cb
  obtain ⟨V, hV⟩ : ∃ V, V = arcsL R := ⟨_, rfl⟩
  obtain ⟨V1, hV1'⟩ : ∃ V1, V1 = arcsL (onesL R) := ⟨_, rfl⟩
  have hV1 : V.one = true := by rw [hV]; simp
  have hV2 : V.fit = true := by rw [hV]; simp
  have hV3 : V.cells = [V] := by rw [hV]; simp
  have hV4 : ∀ h, lenA Try.prog h 22 V = some (.int .i64 (R.length : Int)) := fun h => by
    rw [hV]; unfold arcsL
    split
    · next e => subst e; simp
    · simp [arcsA]
  rw [← hV] at ct cn c1 
  rw [← hV1'] at c1
  simp only [← hV, keep_eq] at cap cr ca cb
  simp only [← hV1'] at cl
  have v1 := hVW.one
  have v2 := hVW.fit
  have v3 := hVW.cells
  have v4 := hVW.len
  have hx : x.av = .agg [.int .i64 x.n, arcsA x.arcs] := rfl
  rw [hx] at ct ⊢
  simp
  intro b3 hb3
  simp [arcsA]
  try simp [arcsA] at ct
  intro b4 hb4
  simp at hb4
  simp [hb4]
  refine ct.use ?_
  simp
  intro b7 hb7
  simp at hb7
  simp [hb7, hb4, hV1, hV2, hV3]
  refine ce.use ?_
  simp [hb7, hb4, hV1, hV2, hV3]
  refine cn.use ?_
  simp
  refine ACalls.mono (cap _) ?_
  rintro _ _ ⟨o, ws, out, rfl, rfl, ho, hows, AP⟩
  simp at ho
  obtain ⟨m, hm⟩ := AP.least
  obtain ⟨In, hI1, hI2, hout⟩ := AP.cut
  have cl1 := cl _ m hm
  have hol : out.length ≤ R.length := by
    rw [hout]
    have := List.length_filter_le (fun k => In (fromN R k) && !In (toN R k)) (List.range R.length)
    simpa [outA] using this
  have hwl2 : ws.length ≤ R.length := by rw [← AP.len]; exact hol
  have cr1 := cr out (by omega) In hI1 hI2 (fun k hk h1 h2 => by
    cases e : In (toN R k) with
    | true => rfl
    | false => exact absurd (by rw [hout]; unfold outA; simp [hk, h1, e]) h2)
  obtain ⟨wsI, hwsI⟩ : ∃ wsI, wsI = ws.map fun w => w.map fun x : Nat => (x : Int) := ⟨_, rfl⟩
  have hwsl : wsI.length = ws.length := by rw [hwsI]; simp
  have hap := AP.ap
  rw [← hwsI] at hap
  have hra : RowsAre (waysC ws) wsI := hwsI ▸ rowsAre_ways ws
  have hrb : ∀ w ∈ wsI, w.length ≤ 18000000000000 := fun w hw => by
    rw [hwsI] at hw
    obtain ⟨y, hy, rfl⟩ := List.mem_map.1 hw
    have := (AP.rows y hy).2
    simp; omega
  have ca1 := ca _ _ _ hra.is (by omega) hrb
  have cb1 := cb _ _ _ hra.is (by omega) hrb
  rw [hap] at ca1 cb1
  have hwn : o = none → waysC ws = [] := fun e => by rw [hows.1 e]; rfl
  have hwne : ∀ b, o = some b → waysC ws ≠ [] := fun b e q => by
    have : ws = [] := by simpa [waysC] using q
    have := hows.2 this
    rw [e] at this; cases this
  have fV : (AV.agg [.int .i64 (P : Int), V]).frozen = true := by
    simp only [AV.frozen]
    refine frozens_iff.2 fun y hy => ?_
    simp only [List.mem_cons, List.not_mem_nil, or_false] at hy
    rcases hy with rfl | rfl
    · rfl
    · rw [hV]; simp
  have ld := fun (f : FuncId) (r : AV) (hr : r.bare1 = true) (H : AHeap) (hH : ∀ b, o = some b → H b = some (.cells (waysC ws))) (c : Pure Try.prog f [.agg [.int .i64 (P : Int), V], .int .i64 s, .int .i64 T, rowsV (waysC ws)] r) => lendW (o := o) (H := H) hr fV rfl rfl hra hwn (fun b e => ⟨hwne b e, hH b e⟩) c
  simp only [hwsl, keep_eq] at ld
  have hHO : ∀ (X : AHeap) (b : Nat), o = some b → (X.updO o (waysC ws)) b = some (.cells (waysC ws)) := fun X b e => by rw [e]; simp [AHeap.upd]
  obtain ⟨VO, hVO⟩ : ∃ VO, VO = natL out := ⟨_, rfl⟩
  have hVO4 : ∀ h, lenA Try.prog h 34 VO = some (.int .i64 (out.length : Int)) := fun h => by rw [hVO]; exact lenA_natL _
  have hVOs : ∀ i, i < out.length → VO = .sl out.length (natC out) := fun i hi => by rw [hVO]; unfold natL; rw [if_neg (fun e => by rw [e] at hi; simp at hi)]
  have hlO : ∀ h, lenA Try.prog h 61 (ownV o ws.length 1) = some (.int .i64 (ws.length : Int)) := fun h => by
    cases o with
    | none => rw [hows.1 rfl]; simp
    | some b => simp
  rw [← hVO] at cr1 ⊢
  have hfo0 := ho
  obtain ⟨o1, o2, o3⟩ := ho
  simp [hb7, hb4, o1, hV1, hV2, hV3]
  refine c1.use ?_
  simp
  refine cl1.use ?_
  simp [hb7, hb4, o1, o2, o3, hV1, hV2, hV3, hlO, hVO4, AP.len, -lenA]
  refine ACalls.mono (ld _ _ rfl _ (hHO _) ca1) ?_
  rintro _ _ ⟨rfl, rfl⟩
  simp [hb7, hb4, o1, o2, o3, hV1, hV2, hV3, hlO, hVO4, -lenA]
  refine cn.use ?_
  simp [hb7, hb4, o1, o2, o3, hV1, hV2, hV3, hlO, hVO4, -lenA]
  refine ACalls.mono (ld _ _ rfl _ (hHO _) cb1) ?_
  rintro _ _ ⟨rfl, rfl⟩
  simp [hb7, hb4, o1, o2, o3, hV1, hV2, hV3, hlO, hVO4, -lenA]
  refine cr1.use ?_
  simp [hb7, hb4, o1, o2, o3, hV1, hV2, hV3, hlO, hVO4, -lenA]
  refine awp_loop_g (γ := Nat) (fun i t h => (i ≤ out.length) ∧ t 2 = VW ∧ t 7 = .ptr b7 0 ∧ t 8 = .int .i64 s ∧ t 9 = .int .i64 T ∧ t 10 = ownV o ws.length 1 ∧ t 11 = VO ∧ t 15 = .int .i64 i ∧ h = (((AHeap.empty.upd b3 (.cells [.int .i64 x.n, .sl x.arcs.length (arcC x.arcs)])).upd b4 (.cells [.int .i64 a, .int .i64 b])).upd b7 (.cells [.int .i64 P, V])).updO o (waysC ws)) (fun i => out.length - i) (0) (turnA_self (by simp [hb7, hb4])) ?_
  rintro i t h ⟨hi, h2, h7, h8, h9, h10, h11, h15, rfl⟩
  by_cases hlt : i < out.length
  · have hltI : (i : Int) < (out.length : Int) := by omega
    have hwi : IntKind.i64.wrap ((i : Int) + 1) = (i : Int) + 1 := wrap_i64 (by omega) (by omega)
    obtain ⟨y, hy⟩ : ∃ y, y = out[i] := ⟨_, rfl⟩
    have hy' : out[i]? = some y := by rw [hy]; exact List.getElem?_eq_getElem hlt
    have hyl : y < R.length := by
      have : y ∈ out := hy ▸ List.getElem_mem hlt
      rw [hout] at this
      exact outA_lt this
    have hsl := hVOs i hlt
    have hy0 : ¬ (y : Int) < 0 := by omega
    have hyI : ¬ (R.length : Int) ≤ (y : Int) := by omega
    simp [h2, h7, h8, h9, h10, h11, h15, hlt, hltI, hVO4, -lenA]
    refine awp_draw_text (by kernel_rfl) [] [] (by kernel_rfl) (by kernel_rfl) (by simp) ?_
    by_cases hi0 : 0 < i
    · have hi0I : (0 : Int) < (i : Int) := by omega
      obtain ⟨j, rfl⟩ : ∃ j, i = j + 1 := ⟨i - 1, by omega⟩
      have hwj : IntKind.i64.wrap (((j + 1 : Nat) : Int) - 1) = (j : Int) := by rw [wrap_i64 (by omega) (by omega)]; omega
      have hwjj : IntKind.i64.wrap (j : Int) = (j : Int) := wrap_i64 (by omega) (by omega)
      have hj2 : j < out.length := by omega
      have hj2I : (j : Int) < (out.length : Int) := by omega
      have hj1I : (j : Int) + 1 < (out.length : Int) := by omega
      obtain ⟨z, hz⟩ : ∃ z, z = out[j] := ⟨_, rfl⟩
      have hz' : out[j]? = some z := by rw [hz]; exact List.getElem?_eq_getElem (by omega)
      have hzy : z < y := by
        rw [hz, hy]
        have hp : out.Pairwise (· < ·) := hout ▸ outA_sorted
        exact List.pairwise_iff_getElem.1 hp j (j + 1) (by omega) hlt (by omega)
      have hzyI : ¬ (y : Int) ≤ (z : Int) := by omega
      simp [h2, h7, h8, h9, h10, h11, h15, hsl, hlt, hltI, natC_at hy', natC_at hz', hwj, hwjj, hj2, hj2I, hj1I, hzyI, hi0I, hy0, hb7, hb4, o1, o2, o3, hV4, hyI, -lenA, show j < out.length from by omega, show (j : Int) < (out.length : Int) from by omega, show ¬ y ≤ z from by omega, show ¬ R.length ≤ y from by omega, show (0 : Int) < (j : Int) + 1 from by omega, show z < y from hzy, show (0 : Int) ≤ (j : Int) + 1 from by omega]
      refine turnA_self ⟨j + 1 + 1, by omega, by omega, by simp [h2, h7, h8, h9, h10, h11, h15, hsl, show IntKind.i64.wrap ((j : Int) + 1 + 1) = (j : Int) + 1 + 1 from wrap_i64 (by omega) (by omega)]⟩
    · obtain rfl : i = 0 := by omega
      simp [h2, h7, h8, h9, h10, h11, h15, hsl, hlt, hltI, natC_at hy', hy0, hb7, hb4, o1, o2, o3, hV4, hyI, -lenA, show ¬ R.length ≤ y from by omega]
      refine turnA_self ⟨0 + 1, by omega, by omega, by simp [h2, h7, h8, h9, h10, h11, h15, hsl, show IntKind.i64.wrap (1 : Int) = 1 from by decide]⟩
  · obtain rfl : i = out.length := by omega
    simp [h2, h7, h8, h9, h10, h11, h15, hVO4, -lenA]
    obtain ⟨wr, hwr⟩ : ∃ wr : Nat → List (List Int), wr = fun k => (ways.take k).map fun w => w.take 8 := ⟨_, rfl⟩
    obtain ⟨rw8, hrw8⟩ : ∃ rw8 : Nat → List AV, rw8 = fun k => (wr k).map intL := ⟨_, rfl⟩
    have hwrl : ∀ k, k ≤ ways.length → (wr k).length = k := fun k hk => by rw [hwr]; simp; omega
    have hrl8 : ∀ k, k ≤ ways.length → (rw8 k).length = k := fun k hk => by rw [hrw8]; simp; exact hwrl k hk
    have hwrb : ∀ k, ∀ w ∈ wr k, w.length ≤ 18000000000000 := fun k w hw => by
      rw [hwr] at hw
      obtain ⟨y, _, rfl⟩ := List.mem_map.1 hw
      simp; omega
    have cak := fun k (hk : k ≤ ways.length) => ca _ _ _ (show RowsIs (rowsV (rw8 k)) (rw8 k) (wr k) from by rw [hrw8]; exact (rowsAre_intL _).is) (by rw [hwrl k hk]; omega) (hwrb k)
    have cbk := fun k (hk : k ≤ ways.length) => cb _ _ _ (show RowsIs (rowsV (rw8 k)) (rw8 k) (wr k) from by rw [hrw8]; exact (rowsAre_intL _).is) (by rw [hwrl k hk]; omega) (hwrb k)
    refine awp_loop_g (γ := At) (fun q t h => (q.i ≤ ways.length ∧ q.i ≤ 4) ∧ ((q.o = none ↔ q.i = 0) ∧ ¬ q.o = some b3 ∧ ¬ q.o = some b4 ∧ ¬ q.o = some b7 ∧ (∀ b, q.o = some b → ¬ o = some b)) ∧ t 2 = VW ∧ t 7 = .ptr b7 0 ∧ t 8 = .int .i64 s ∧ t 9 = .int .i64 T ∧ t 10 = ownV o ws.length 1 ∧ t 16 = ownV q.o q.i 1 ∧ t 17 = .int .i64 q.i ∧ h = ((((AHeap.empty.upd b3 (.cells [.int .i64 x.n, .sl x.arcs.length (arcC x.arcs)])).upd b4 (.cells [.int .i64 a, .int .i64 b])).upd b7 (.cells [.int .i64 P, V])).updO o (waysC ws)).updO q.o (rw8 q.i)) (fun q => ways.length - q.i) (⟨0, none⟩) (turnA_self (by simp [h2, h7, h8, h9, h10, h11, h15, hrw8, hwr])) ?_
    rintro q t hx ⟨hi, ho, h2, h7, h8, h9, h10, h16, h17, ex⟩
    rw [ex]
    clear ex
    obtain ⟨i, o4⟩ := q
    simp only at h2 h7 h8 h9 h10 h16 h17 hi ho
    obtain ⟨p1, p2, p3, p4, p5⟩ := ho
    obtain ⟨hi1, hi2⟩ := hi
    have hfo : FreshO ((((AHeap.empty.upd b3 (.cells [.int .i64 x.n, .sl x.arcs.length (arcC x.arcs)])).upd b4 (.cells [.int .i64 a, .int .i64 b])).upd b7 (.cells [.int .i64 P, V])).updO o (waysC ws)) o4 := by
      cases o4 with
      | none => trivial
      | some d => simp at p2 p3 p4 ⊢; have q := p5 d rfl; grind
    have hfz : ∀ t1 : AF, t1 16 = ownV o4 i 1 → frzF 2 (((((AHeap.empty.upd b3 (.cells [.int .i64 x.n, .sl x.arcs.length (arcC x.arcs)])).upd b4 (.cells [.int .i64 a, .int .i64 b])).upd b7 (.cells [.int .i64 P, V])).updO o (waysC ws)).updO o4 (rw8 i)) ((((AHeap.empty.upd b3 (.cells [.int .i64 x.n, .sl x.arcs.length (arcC x.arcs)])).upd b4 (.cells [.int .i64 a, .int .i64 b])).upd b7 (.cells [.int .i64 P, V])).updO o (waysC ws)) (t1 16) = rowsV (rw8 i) := fun t1 e => by
      have hR : RowsAre (rw8 i) (wr i) := by rw [hrw8]; exact rowsAre_intL _
      rw [e]
      have := frz_rows (o := o4) (H := ((((AHeap.empty.upd b3 (.cells [.int .i64 x.n, .sl x.arcs.length (arcC x.arcs)])).upd b4 (.cells [.int .i64 a, .int .i64 b])).upd b7 (.cells [.int .i64 P, V])).updO o (waysC ws)).updO o4 (rw8 i)) (h' := (((AHeap.empty.upd b3 (.cells [.int .i64 x.n, .sl x.arcs.length (arcC x.arcs)])).upd b4 (.cells [.int .i64 a, .int .i64 b])).upd b7 (.cells [.int .i64 P, V])).updO o (waysC ws)) hR (fun e => by rw [p1.1 e, hrw8, hwr]; rfl) (fun d e => ⟨fun q => ?_, by rw [e]; simp [AHeap.upd], by subst e; exact hfo⟩)
      · rw [hwrl i hi1] at this; exact this
      · have q1 : i = 0 := by rw [← hrl8 i hi1, q]; rfl
        rw [p1.2 q1] at e; cases e
    have hfq : ∀ t1 : AF, t1 10 = ownV o ws.length 1 → frzF 2 ((((AHeap.empty.upd b3 (.cells [.int .i64 x.n, .sl x.arcs.length (arcC x.arcs)])).upd b4 (.cells [.int .i64 a, .int .i64 b])).upd b7 (.cells [.int .i64 P, V])).updO o (waysC ws)) (((AHeap.empty.upd b3 (.cells [.int .i64 x.n, .sl x.arcs.length (arcC x.arcs)])).upd b4 (.cells [.int .i64 a, .int .i64 b])).upd b7 (.cells [.int .i64 P, V])) (t1 10) = rowsV (waysC ws) := fun t1 e => by
      rw [e]
      have := frz_rows (o := o) (H := (((AHeap.empty.upd b3 (.cells [.int .i64 x.n, .sl x.arcs.length (arcC x.arcs)])).upd b4 (.cells [.int .i64 a, .int .i64 b])).upd b7 (.cells [.int .i64 P, V])).updO o (waysC ws)) (h' := ((AHeap.empty.upd b3 (.cells [.int .i64 x.n, .sl x.arcs.length (arcC x.arcs)])).upd b4 (.cells [.int .i64 a, .int .i64 b])).upd b7 (.cells [.int .i64 P, V])) hra hwn (fun d e => ⟨hwne d e, hHO _ d e, by subst e; simp at o1 o2 o3 ⊢; grind⟩)
      rw [hwsl] at this; exact this
    by_cases hlt : i < ways.length
    · have hltI : (i : Int) < (ways.length : Int) := by omega
      by_cases h4 : i < 4
      · have h4I : (i : Int) < 4 := by omega
        have hwi : IntKind.i64.wrap ((i : Int) + 1) = (i : Int) + 1 := wrap_i64 (by omega) (by omega)
        obtain ⟨w, hw⟩ : ∃ w, w = ways[i] := ⟨_, rfl⟩
        obtain ⟨a0, hrow, hai⟩ := hVW.row i hlt
        rw [← hw] at hai
        have hVs := hVW.sl i hlt
        have hir : i < rows0.length := by have := congrArg List.length hrow; simp at this; omega
        have craw := l_raw a0 w hai (hrl w (hw ▸ List.getElem_mem hlt))
        have hr8 : rw8 i ++ [intL (w.take 8)] = rw8 (i + 1) := by
          rw [hrw8, hwr]; simp only
          rw [List.take_succ_eq_append_getElem hlt, List.map_append, List.map_append, hw]
          rfl
        simp [h2, h7, h8, h9, h10, h16, h17, v4, hlt, hltI, h4, h4I, -lenA]
        rw [hVs] at v1 v2 v3 v4
        simp [h2, h7, h8, h9, h10, h16, h17, hVs, hrow, hir, hlt, hltI, hai.one, hai.fit, hai.cells]
        refine craw.use ?_
        simp [h2, h7, h8, h9, h10, h16, h17]
        intro b13 hb13
        simp [hb7, hb4, o1, o2, o3] at hb13
        simp [h2, h7, h8, h9, h10, h16, h17, hb13]
        refine appendA_updO (es := 1) (n := i) (k := 1) Nat.zero_lt_one (by omega) (fun e => by rw [p1.1 e, hrw8, hwr]; rfl) (by rw [hrl8 i (by omega)]; simp) Nat.zero_lt_one (by cases o4 with | none => trivial | some d => simp at hb13 p2 p3 p4 ⊢; have q := p5 d rfl; grind) fun b' hb' => ?_
        simp [hb13, hb7, hb4, o1, o2, o3] at hb'
        simp [h2, h7, h8, h9, h10, h16, h17, hr8, hb', hb13]
        refine turnA_to (((((AHeap.empty.upd b3 (.cells [.int .i64 x.n, .sl x.arcs.length (arcC x.arcs)])).upd b4 (.cells [.int .i64 a, .int .i64 b])).upd b7 (.cells [.int .i64 P, V])).upd b' (.cells (rw8 (i + 1)))).updO o (waysC ws)) ?_ ⟨⟨i + 1, some b'⟩, by simp only; omega, by simp only; omega, by simp [hb'], by simp [h2, h7, h8, h9, h10, h16, h17, hwi, hVs, hb']⟩
        have d1 : Drop (((((AHeap.empty.upd b3 (.cells [.int .i64 x.n, .sl x.arcs.length (arcC x.arcs)])).upd b4 (.cells [.int .i64 a, .int .i64 b])).upd b7 (.cells [.int .i64 P, V])).upd b13 (.cells [intL (w.take 8)])).upd b' (.cells (rw8 (i + 1)))) ((((AHeap.empty.upd b3 (.cells [.int .i64 x.n, .sl x.arcs.length (arcC x.arcs)])).upd b4 (.cells [.int .i64 a, .int .i64 b])).upd b7 (.cells [.int .i64 P, V])).upd b' (.cells (rw8 (i + 1)))) := Drop.both (Drop.new (Drop.refl _) (by simp [hb13]))
        cases o with
        | none => exact d1
        | some d => exact Drop.both d1
      · have h4I : ¬ (i : Int) < 4 := by omega
        simp [h2, h7, h8, h9, h10, h16, h17, v4, hlt, hltI, h4, h4I, -lenA]
        refine AWP.frz_slot 16 (rowsV (rw8 i)) ((((AHeap.empty.upd b3 (.cells [.int .i64 x.n, .sl x.arcs.length (arcC x.arcs)])).upd b4 (.cells [.int .i64 a, .int .i64 b])).upd b7 (.cells [.int .i64 P, V])).updO o (waysC ws)) 2 (drop_updO (Drop.refl _) hfo) (hfz _ (by simp [h2, h7, h8, h9, h10, h16, h17])) ?_
        refine awp_draw_text (by kernel_rfl) [140, 144, 149] [(.fn (.func 14) [] [], [.agg [.int .i64 (P : Int), V]], .agg [.int .i64 (P : Int), V]), (.fn (.func 30) [] [], [.agg [.int .i64 (P : Int), V], .int .i64 (s : Int), .int .i64 (T : Int), rowsV (rw8 i)], .bool (apartR R s T (wr i))), (.fn (.func 29) [] [], [.agg [.int .i64 (P : Int), V], .int .i64 (s : Int), .int .i64 (T : Int), rowsV (rw8 i)], .bool (apartR R s T (wr i)))] (by kernel_rfl) (by kernel_rfl) (by simp; exact ⟨PureV.of cn, PureV.of (cbk i hi1), PureV.of (cak i hi1)⟩) ?_
        simp [h2, h7, h8, h9, h10, h16, h17, hb7, hb4, o1, o2, o3, hV1, hV2, hV3, hlO, v4, -lenA]
        by_cases hn0 : 0 < ws.length ∧ 0 < ways.length
        · obtain ⟨hn1, hn2⟩ := hn0
          have hn1I : (0 : Int) < (ws.length : Int) := by omega
          have hn2I : (0 : Int) < (ways.length : Int) := by omega
          obtain ⟨w0, wt, rfl⟩ : ∃ w0 wt, ws = w0 :: wt := by cases ws with | nil => simp at hn1 | cons w0 wt => exact ⟨w0, wt, rfl⟩
          obtain ⟨d, rfl⟩ : ∃ d, o = some d := by
            cases o with
            | none => have := hows.1 rfl; cases this
            | some d => exact ⟨d, rfl⟩
          have hd0 : ¬ d = b3 ∧ ¬ d = b4 ∧ ¬ d = b7 := by simp at o1 o2 o3; grind
          have hwc : waysC (w0 :: wt) = .sl w0.length (natC w0) :: waysC wt := rfl
          have hcl : (waysC (w0 :: wt)).length = (w0 :: wt).length := by simp [waysC]
          obtain ⟨w0I, hw0I⟩ : ∃ w0I, w0I = w0.map fun x : Nat => (x : Int) := ⟨_, rfl⟩
          have hw0l : w0I.length = w0.length := by rw [hw0I]; simp
          have hw02 := AP.rows w0 (by simp)
          have hw00 : 0 < w0.length := List.length_pos_iff.2 hw02.1
          have hwtl : wsI.length = wt.length + 1 := by rw [hwsl]; rfl
          have hfX : ∀ (rows : List AV) (wx : List (List Int)), RowsAre rows wx → rows ≠ [] → ∀ (H : AHeap) (b' : Nat) (t1 : AF), t1 10 = .osl b' 0 wx.length 1 → H b' = some (.cells rows) → Fresh (((AHeap.empty.upd b3 (.cells [.int .i64 x.n, .sl x.arcs.length (arcC x.arcs)])).upd b4 (.cells [.int .i64 a, .int .i64 b])).upd b7 (.cells [.int .i64 P, V])) b' → frzF 2 H (((AHeap.empty.upd b3 (.cells [.int .i64 x.n, .sl x.arcs.length (arcC x.arcs)])).upd b4 (.cells [.int .i64 a, .int .i64 b])).upd b7 (.cells [.int .i64 P, V])) (t1 10) = rowsV rows := fun rows wx h1 h2 H b' t1 e1 e2 e3 => by
            rw [e1]
            exact frz_rows (o := some b') h1 (fun q => nomatch q) (fun d e => by cases e; exact ⟨h2, e2, e3⟩)
          by_cases he : (ways.length : Int).tmod 2 = 0
          · have hX : RowsAre (.sl w0.length (natC w0) :: (waysC wt ++ [.sl w0.length (natC w0)])) (wsI ++ [w0I]) := hra.snoc (.inr (by rw [hw0l, natC_intC, hw0I]))
            have hXb : ∀ w ∈ wsI ++ [w0I], w.length ≤ 18000000000000 := fun w hw => by
              rcases List.mem_append.1 hw with q | q
              · exact hrb w q
              · simp only [List.mem_singleton] at q; rw [q, hw0l]; omega
            have cbX := cb _ _ _ hX.is (by simp; omega) hXb
            have caX := ca _ _ _ hX.is (by simp; omega) hXb
            simp [h2, h7, h8, h9, h10, h16, h17, hn1, hn2, hn1I, hn2I, v4, he, hwc, -lenA]
            intro c5 hc5
            simp at hc5
            simp [h2, h7, h8, h9, h10, h16, h17, hc5, hd0, hwc]
            refine ⟨by simp at hwl2; omega, by simp [waysC], ?_⟩
            intro b' hb'
            simp [hc5, hd0] at hb'
            simp [h2, h7, h8, h9, h10, h16, h17, hc5, hb', hd0]
            refine AWP.frz_slot 10 (rowsV (.sl w0.length (natC w0) :: (waysC wt ++ [.sl w0.length (natC w0)]))) (((AHeap.empty.upd b3 (.cells [.int .i64 x.n, .sl x.arcs.length (arcC x.arcs)])).upd b4 (.cells [.int .i64 a, .int .i64 b])).upd b7 (.cells [.int .i64 P, V])) 2 (Drop.new (Drop.new (Drop.refl _) (by simp [hc5])) (by simp [hb'])) (hfX _ _ hX (by simp) _ b' _ (by simp [h2, h7, h8, h9, h10, h16, h17, hwtl]) (by simp [AHeap.upd]) (by simp [hb'])) ?_
            refine awp_draw_text (by kernel_rfl) [183, 187, 192, 195] [(.fn (.func 14) [] [], [.agg [.int .i64 (P : Int), V]], .agg [.int .i64 (P : Int), V]), (.fn (.func 30) [] [], [.agg [.int .i64 (P : Int), V], .int .i64 (s : Int), .int .i64 (T : Int), rowsV (.sl w0.length (natC w0) :: (waysC wt ++ [.sl w0.length (natC w0)]))], .bool (apartR R s T (wsI ++ [w0I]))), (.fn (.func 29) [] [], [.agg [.int .i64 (P : Int), V], .int .i64 (s : Int), .int .i64 (T : Int), rowsV (.sl w0.length (natC w0) :: (waysC wt ++ [.sl w0.length (natC w0)]))], .bool (apartR R s T (wsI ++ [w0I]))), (.fn (.func 16) [] [], [], .bool true)] (by kernel_rfl) (by kernel_rfl) (by simp; exact ⟨PureV.of cn, PureV.of (cbX), PureV.of (caX), PureV.of w_awake⟩) ?_
            simp [h2, h7, h8, h9, h10, h16, h17, hb7, hb4, hV1, hV2, hV3]
            exact finA_drop rfl
          · obtain ⟨m, hm1⟩ : ∃ m, w0.length = m + 1 := ⟨w0.length - 1, by omega⟩
            have hX : RowsAre (.sl m ((natC w0).take m) :: waysC wt) (wsI.set 0 (w0I.take m)) := hra.set0 (a := .sl m ((natC w0).take m)) (w := w0I.take m) (.inr (by rw [natC_intC, ← hw0I]; simp [intC, List.map_take]; omega)) (fun q => by rw [q] at hwtl; simp at hwtl)
            have hXb : ∀ w ∈ wsI.set 0 (w0I.take m), w.length ≤ 18000000000000 := fun w hw => by
              rcases List.mem_or_eq_of_mem_set hw with q | q
              · exact hrb w q
              · rw [q]; simp; omega
            have cbX := cb _ _ _ hX.is (by simp; omega) hXb
            have caX := ca _ _ _ hX.is (by simp; omega) hXb
            have hwm : IntKind.i64.wrap ((w0.length : Int) - 1) = (m : Int) := by rw [wrap_i64 (by omega) (by omega)]; omega
            have hml : m ≤ w0.length := by omega
            have hw0len : ∀ g, lenA Try.prog g 34 (.sl w0.length (natC w0)) = some (.int .i64 (w0.length : Int)) := fun g => by simp
            have hmlI : (m : Int) ≤ (w0.length : Int) := by omega
            have hm0 : (0 : Int) ≤ (m : Int) := by omega
            simp [h2, h7, h8, h9, h10, h16, h17, hn1, hn2, hn1I, hn2I, v4, he, hwc, hwm, hml, hmlI, hm0, hw0len, hd0, -lenA]
            simp [h2, h7, h8, h9, h10, h16, h17, slice3A, splice, hwm, hml, hmlI, hm0, hd0]
            refine AWP.frz_slot 10 (rowsV (.sl m ((natC w0).take m) :: waysC wt)) (((AHeap.empty.upd b3 (.cells [.int .i64 x.n, .sl x.arcs.length (arcC x.arcs)])).upd b4 (.cells [.int .i64 a, .int .i64 b])).upd b7 (.cells [.int .i64 P, V])) 2 (Drop.new (b := d) (Drop.refl _) (by simp [hd0, show ¬ b3 = d from fun q => hd0.1 q.symm, show ¬ b4 = d from fun q => hd0.2.1 q.symm, show ¬ b7 = d from fun q => hd0.2.2 q.symm])) (hfX _ _ hX (by simp) _ d _ (by simp [h2, h7, h8, h9, h10, h16, h17, hwtl]) (by simp [AHeap.upd]) (by simp [hd0, show ¬ b3 = d from fun q => hd0.1 q.symm, show ¬ b4 = d from fun q => hd0.2.1 q.symm, show ¬ b7 = d from fun q => hd0.2.2 q.symm])) ?_
            refine awp_draw_text (by kernel_rfl) [183, 187, 192, 195] [(.fn (.func 14) [] [], [.agg [.int .i64 (P : Int), V]], .agg [.int .i64 (P : Int), V]), (.fn (.func 30) [] [], [.agg [.int .i64 (P : Int), V], .int .i64 (s : Int), .int .i64 (T : Int), rowsV (.sl m ((natC w0).take m) :: waysC wt)], .bool (apartR R s T (wsI.set 0 (w0I.take m)))), (.fn (.func 29) [] [], [.agg [.int .i64 (P : Int), V], .int .i64 (s : Int), .int .i64 (T : Int), rowsV (.sl m ((natC w0).take m) :: waysC wt)], .bool (apartR R s T (wsI.set 0 (w0I.take m)))), (.fn (.func 16) [] [], [], .bool true)] (by kernel_rfl) (by kernel_rfl) (by simp; exact ⟨PureV.of cn, PureV.of (cbX), PureV.of (caX), PureV.of w_awake⟩) ?_
            simp [h2, h7, h8, h9, h10, h16, h17, hb7, hb4, hV1, hV2, hV3]
            exact finA_drop rfl
        · have hc : ¬ ws.length = 0 → ways.length = 0 := fun h => by omega
          by_cases hz : ws.length = 0
          · have hzI : ¬ (0 : Int) < (ws.length : Int) := by omega
            have hzN : ¬ 0 < ws.length := by omega
            simp [hzI, hzN, hlO, v4, -lenA]
            refine AWP.frz_slot 10 (rowsV (waysC ws)) (((AHeap.empty.upd b3 (.cells [.int .i64 x.n, .sl x.arcs.length (arcC x.arcs)])).upd b4 (.cells [.int .i64 a, .int .i64 b])).upd b7 (.cells [.int .i64 P, V])) 2 (drop_updO (Drop.refl _) (by simp [o1, o2, o3])) (hfq _ (by simp [h2, h7, h8, h9, h10, h16, h17])) ?_
            refine awp_draw_text (by kernel_rfl) [183, 187, 192, 195] [(.fn (.func 14) [] [], [.agg [.int .i64 (P : Int), V]], .agg [.int .i64 (P : Int), V]), (.fn (.func 30) [] [], [.agg [.int .i64 (P : Int), V], .int .i64 (s : Int), .int .i64 (T : Int), rowsV (waysC ws)], .bool (true)), (.fn (.func 29) [] [], [.agg [.int .i64 (P : Int), V], .int .i64 (s : Int), .int .i64 (T : Int), rowsV (waysC ws)], .bool (true)), (.fn (.func 16) [] [], [], .bool true)] (by kernel_rfl) (by kernel_rfl) (by simp; exact ⟨PureV.of cn, PureV.of (cb1), PureV.of (ca1), PureV.of w_awake⟩) ?_
            simp [h2, h7, h8, h9, h10, h16, h17, hb7, hb4, hV1, hV2, hV3]
            exact finA_drop rfl
          · have hw0 := hc hz
            have hzN : 0 < ws.length := by omega
            have hzI : (0 : Int) < (ws.length : Int) := by omega
            have hwN : ¬ 0 < ways.length := by omega
            have hwI : ¬ (0 : Int) < (ways.length : Int) := by omega
            simp [h2, h7, h8, h9, h10, h16, h17, hzI, hzN, hwN, hwI, hlO, v4, -lenA]
            refine AWP.frz_slot 10 (rowsV (waysC ws)) (((AHeap.empty.upd b3 (.cells [.int .i64 x.n, .sl x.arcs.length (arcC x.arcs)])).upd b4 (.cells [.int .i64 a, .int .i64 b])).upd b7 (.cells [.int .i64 P, V])) 2 (drop_updO (Drop.refl _) (by simp [o1, o2, o3])) (hfq _ (by simp [h2, h7, h8, h9, h10, h16, h17])) ?_
            refine awp_draw_text (by kernel_rfl) [183, 187, 192, 195] [(.fn (.func 14) [] [], [.agg [.int .i64 (P : Int), V]], .agg [.int .i64 (P : Int), V]), (.fn (.func 30) [] [], [.agg [.int .i64 (P : Int), V], .int .i64 (s : Int), .int .i64 (T : Int), rowsV (waysC ws)], .bool (true)), (.fn (.func 29) [] [], [.agg [.int .i64 (P : Int), V], .int .i64 (s : Int), .int .i64 (T : Int), rowsV (waysC ws)], .bool (true)), (.fn (.func 16) [] [], [], .bool true)] (by kernel_rfl) (by kernel_rfl) (by simp; exact ⟨PureV.of cn, PureV.of (cb1), PureV.of (ca1), PureV.of w_awake⟩) ?_
            simp [h2, h7, h8, h9, h10, h16, h17, hb7, hb4, hV1, hV2, hV3]
            exact finA_drop rfl
    · have hltI : ¬ (i : Int) < (ways.length : Int) := by omega
      simp [h2, h7, h8, h9, h10, h16, h17, v4, hlt, hltI, -lenA]
      refine AWP.frz_slot 16 (rowsV (rw8 i)) ((((AHeap.empty.upd b3 (.cells [.int .i64 x.n, .sl x.arcs.length (arcC x.arcs)])).upd b4 (.cells [.int .i64 a, .int .i64 b])).upd b7 (.cells [.int .i64 P, V])).updO o (waysC ws)) 2 (drop_updO (Drop.refl _) hfo) (hfz _ (by simp [h2, h7, h8, h9, h10, h16, h17])) ?_
      refine awp_draw_text (by kernel_rfl) [140, 144, 149] [(.fn (.func 14) [] [], [.agg [.int .i64 (P : Int), V]], .agg [.int .i64 (P : Int), V]), (.fn (.func 30) [] [], [.agg [.int .i64 (P : Int), V], .int .i64 (s : Int), .int .i64 (T : Int), rowsV (rw8 i)], .bool (apartR R s T (wr i))), (.fn (.func 29) [] [], [.agg [.int .i64 (P : Int), V], .int .i64 (s : Int), .int .i64 (T : Int), rowsV (rw8 i)], .bool (apartR R s T (wr i)))] (by kernel_rfl) (by kernel_rfl) (by simp; exact ⟨PureV.of cn, PureV.of (cbk i hi1), PureV.of (cak i hi1)⟩) ?_
      simp [h2, h7, h8, h9, h10, h16, h17, hb7, hb4, o1, o2, o3, hV1, hV2, hV3, hlO, v4, -lenA]
      by_cases hn0 : 0 < ws.length ∧ 0 < ways.length
      · obtain ⟨hn1, hn2⟩ := hn0
        have hn1I : (0 : Int) < (ws.length : Int) := by omega
        have hn2I : (0 : Int) < (ways.length : Int) := by omega
        obtain ⟨w0, wt, rfl⟩ : ∃ w0 wt, ws = w0 :: wt := by cases ws with | nil => simp at hn1 | cons w0 wt => exact ⟨w0, wt, rfl⟩
        obtain ⟨d, rfl⟩ : ∃ d, o = some d := by
          cases o with
          | none => have := hows.1 rfl; cases this
          | some d => exact ⟨d, rfl⟩
        have hd0 : ¬ d = b3 ∧ ¬ d = b4 ∧ ¬ d = b7 := by simp at o1 o2 o3; grind
        have hwc : waysC (w0 :: wt) = .sl w0.length (natC w0) :: waysC wt := rfl
        have hcl : (waysC (w0 :: wt)).length = (w0 :: wt).length := by simp [waysC]
        obtain ⟨w0I, hw0I⟩ : ∃ w0I, w0I = w0.map fun x : Nat => (x : Int) := ⟨_, rfl⟩
        have hw0l : w0I.length = w0.length := by rw [hw0I]; simp
        have hw02 := AP.rows w0 (by simp)
        have hw00 : 0 < w0.length := List.length_pos_iff.2 hw02.1
        have hwtl : wsI.length = wt.length + 1 := by rw [hwsl]; rfl
        have hfX : ∀ (rows : List AV) (wx : List (List Int)), RowsAre rows wx → rows ≠ [] → ∀ (H : AHeap) (b' : Nat) (t1 : AF), t1 10 = .osl b' 0 wx.length 1 → H b' = some (.cells rows) → Fresh (((AHeap.empty.upd b3 (.cells [.int .i64 x.n, .sl x.arcs.length (arcC x.arcs)])).upd b4 (.cells [.int .i64 a, .int .i64 b])).upd b7 (.cells [.int .i64 P, V])) b' → frzF 2 H (((AHeap.empty.upd b3 (.cells [.int .i64 x.n, .sl x.arcs.length (arcC x.arcs)])).upd b4 (.cells [.int .i64 a, .int .i64 b])).upd b7 (.cells [.int .i64 P, V])) (t1 10) = rowsV rows := fun rows wx h1 h2 H b' t1 e1 e2 e3 => by
          rw [e1]
          exact frz_rows (o := some b') h1 (fun q => nomatch q) (fun d e => by cases e; exact ⟨h2, e2, e3⟩)
        by_cases he : (ways.length : Int).tmod 2 = 0
        · have hX : RowsAre (.sl w0.length (natC w0) :: (waysC wt ++ [.sl w0.length (natC w0)])) (wsI ++ [w0I]) := hra.snoc (.inr (by rw [hw0l, natC_intC, hw0I]))
          have hXb : ∀ w ∈ wsI ++ [w0I], w.length ≤ 18000000000000 := fun w hw => by
            rcases List.mem_append.1 hw with q | q
            · exact hrb w q
            · simp only [List.mem_singleton] at q; rw [q, hw0l]; omega
          have cbX := cb _ _ _ hX.is (by simp; omega) hXb
          have caX := ca _ _ _ hX.is (by simp; omega) hXb
          simp [h2, h7, h8, h9, h10, h16, h17, hn1, hn2, hn1I, hn2I, v4, he, hwc, -lenA]
          intro c5 hc5
          simp at hc5
          simp [h2, h7, h8, h9, h10, h16, h17, hc5, hd0, hwc]
          refine ⟨by simp at hwl2; omega, by simp [waysC], ?_⟩
          intro b' hb'
          simp [hc5, hd0] at hb'
          simp [h2, h7, h8, h9, h10, h16, h17, hc5, hb', hd0]
          refine AWP.frz_slot 10 (rowsV (.sl w0.length (natC w0) :: (waysC wt ++ [.sl w0.length (natC w0)]))) (((AHeap.empty.upd b3 (.cells [.int .i64 x.n, .sl x.arcs.length (arcC x.arcs)])).upd b4 (.cells [.int .i64 a, .int .i64 b])).upd b7 (.cells [.int .i64 P, V])) 2 (Drop.new (Drop.new (Drop.refl _) (by simp [hc5])) (by simp [hb'])) (hfX _ _ hX (by simp) _ b' _ (by simp [h2, h7, h8, h9, h10, h16, h17, hwtl]) (by simp [AHeap.upd]) (by simp [hb'])) ?_
          refine awp_draw_text (by kernel_rfl) [183, 187, 192, 195] [(.fn (.func 14) [] [], [.agg [.int .i64 (P : Int), V]], .agg [.int .i64 (P : Int), V]), (.fn (.func 30) [] [], [.agg [.int .i64 (P : Int), V], .int .i64 (s : Int), .int .i64 (T : Int), rowsV (.sl w0.length (natC w0) :: (waysC wt ++ [.sl w0.length (natC w0)]))], .bool (apartR R s T (wsI ++ [w0I]))), (.fn (.func 29) [] [], [.agg [.int .i64 (P : Int), V], .int .i64 (s : Int), .int .i64 (T : Int), rowsV (.sl w0.length (natC w0) :: (waysC wt ++ [.sl w0.length (natC w0)]))], .bool (apartR R s T (wsI ++ [w0I]))), (.fn (.func 16) [] [], [], .bool true)] (by kernel_rfl) (by kernel_rfl) (by simp; exact ⟨PureV.of cn, PureV.of (cbX), PureV.of (caX), PureV.of w_awake⟩) ?_
          simp [h2, h7, h8, h9, h10, h16, h17, hb7, hb4, hV1, hV2, hV3]
          exact finA_drop rfl
        · obtain ⟨m, hm1⟩ : ∃ m, w0.length = m + 1 := ⟨w0.length - 1, by omega⟩
          have hX : RowsAre (.sl m ((natC w0).take m) :: waysC wt) (wsI.set 0 (w0I.take m)) := hra.set0 (a := .sl m ((natC w0).take m)) (w := w0I.take m) (.inr (by rw [natC_intC, ← hw0I]; simp [intC, List.map_take]; omega)) (fun q => by rw [q] at hwtl; simp at hwtl)
          have hXb : ∀ w ∈ wsI.set 0 (w0I.take m), w.length ≤ 18000000000000 := fun w hw => by
            rcases List.mem_or_eq_of_mem_set hw with q | q
            · exact hrb w q
            · rw [q]; simp; omega
          have cbX := cb _ _ _ hX.is (by simp; omega) hXb
          have caX := ca _ _ _ hX.is (by simp; omega) hXb
          have hwm : IntKind.i64.wrap ((w0.length : Int) - 1) = (m : Int) := by rw [wrap_i64 (by omega) (by omega)]; omega
          have hml : m ≤ w0.length := by omega
          have hw0len : ∀ g, lenA Try.prog g 34 (.sl w0.length (natC w0)) = some (.int .i64 (w0.length : Int)) := fun g => by simp
          have hmlI : (m : Int) ≤ (w0.length : Int) := by omega
          have hm0 : (0 : Int) ≤ (m : Int) := by omega
          simp [h2, h7, h8, h9, h10, h16, h17, hn1, hn2, hn1I, hn2I, v4, he, hwc, hwm, hml, hmlI, hm0, hw0len, hd0, -lenA]
          simp [h2, h7, h8, h9, h10, h16, h17, slice3A, splice, hwm, hml, hmlI, hm0, hd0]
          refine AWP.frz_slot 10 (rowsV (.sl m ((natC w0).take m) :: waysC wt)) (((AHeap.empty.upd b3 (.cells [.int .i64 x.n, .sl x.arcs.length (arcC x.arcs)])).upd b4 (.cells [.int .i64 a, .int .i64 b])).upd b7 (.cells [.int .i64 P, V])) 2 (Drop.new (b := d) (Drop.refl _) (by simp [hd0, show ¬ b3 = d from fun q => hd0.1 q.symm, show ¬ b4 = d from fun q => hd0.2.1 q.symm, show ¬ b7 = d from fun q => hd0.2.2 q.symm])) (hfX _ _ hX (by simp) _ d _ (by simp [h2, h7, h8, h9, h10, h16, h17, hwtl]) (by simp [AHeap.upd]) (by simp [hd0, show ¬ b3 = d from fun q => hd0.1 q.symm, show ¬ b4 = d from fun q => hd0.2.1 q.symm, show ¬ b7 = d from fun q => hd0.2.2 q.symm])) ?_
          refine awp_draw_text (by kernel_rfl) [183, 187, 192, 195] [(.fn (.func 14) [] [], [.agg [.int .i64 (P : Int), V]], .agg [.int .i64 (P : Int), V]), (.fn (.func 30) [] [], [.agg [.int .i64 (P : Int), V], .int .i64 (s : Int), .int .i64 (T : Int), rowsV (.sl m ((natC w0).take m) :: waysC wt)], .bool (apartR R s T (wsI.set 0 (w0I.take m)))), (.fn (.func 29) [] [], [.agg [.int .i64 (P : Int), V], .int .i64 (s : Int), .int .i64 (T : Int), rowsV (.sl m ((natC w0).take m) :: waysC wt)], .bool (apartR R s T (wsI.set 0 (w0I.take m)))), (.fn (.func 16) [] [], [], .bool true)] (by kernel_rfl) (by kernel_rfl) (by simp; exact ⟨PureV.of cn, PureV.of (cbX), PureV.of (caX), PureV.of w_awake⟩) ?_
          simp [h2, h7, h8, h9, h10, h16, h17, hb7, hb4, hV1, hV2, hV3]
          exact finA_drop rfl
      · have hc : ¬ ws.length = 0 → ways.length = 0 := fun h => by omega
        by_cases hz : ws.length = 0
        · have hzI : ¬ (0 : Int) < (ws.length : Int) := by omega
          have hzN : ¬ 0 < ws.length := by omega
          simp [hzI, hzN, hlO, v4, -lenA]
          refine AWP.frz_slot 10 (rowsV (waysC ws)) (((AHeap.empty.upd b3 (.cells [.int .i64 x.n, .sl x.arcs.length (arcC x.arcs)])).upd b4 (.cells [.int .i64 a, .int .i64 b])).upd b7 (.cells [.int .i64 P, V])) 2 (drop_updO (Drop.refl _) (by simp [o1, o2, o3])) (hfq _ (by simp [h2, h7, h8, h9, h10, h16, h17])) ?_
          refine awp_draw_text (by kernel_rfl) [183, 187, 192, 195] [(.fn (.func 14) [] [], [.agg [.int .i64 (P : Int), V]], .agg [.int .i64 (P : Int), V]), (.fn (.func 30) [] [], [.agg [.int .i64 (P : Int), V], .int .i64 (s : Int), .int .i64 (T : Int), rowsV (waysC ws)], .bool (true)), (.fn (.func 29) [] [], [.agg [.int .i64 (P : Int), V], .int .i64 (s : Int), .int .i64 (T : Int), rowsV (waysC ws)], .bool (true)), (.fn (.func 16) [] [], [], .bool true)] (by kernel_rfl) (by kernel_rfl) (by simp; exact ⟨PureV.of cn, PureV.of (cb1), PureV.of (ca1), PureV.of w_awake⟩) ?_
          simp [h2, h7, h8, h9, h10, h16, h17, hb7, hb4, hV1, hV2, hV3]
          exact finA_drop rfl
        · have hw0 := hc hz
          have hzN : 0 < ws.length := by omega
          have hzI : (0 : Int) < (ws.length : Int) := by omega
          have hwN : ¬ 0 < ways.length := by omega
          have hwI : ¬ (0 : Int) < (ways.length : Int) := by omega
          simp [h2, h7, h8, h9, h10, h16, h17, hzI, hzN, hwN, hwI, hlO, v4, -lenA]
          refine AWP.frz_slot 10 (rowsV (waysC ws)) (((AHeap.empty.upd b3 (.cells [.int .i64 x.n, .sl x.arcs.length (arcC x.arcs)])).upd b4 (.cells [.int .i64 a, .int .i64 b])).upd b7 (.cells [.int .i64 P, V])) 2 (drop_updO (Drop.refl _) (by simp [o1, o2, o3])) (hfq _ (by simp [h2, h7, h8, h9, h10, h16, h17])) ?_
          refine awp_draw_text (by kernel_rfl) [183, 187, 192, 195] [(.fn (.func 14) [] [], [.agg [.int .i64 (P : Int), V]], .agg [.int .i64 (P : Int), V]), (.fn (.func 30) [] [], [.agg [.int .i64 (P : Int), V], .int .i64 (s : Int), .int .i64 (T : Int), rowsV (waysC ws)], .bool (true)), (.fn (.func 29) [] [], [.agg [.int .i64 (P : Int), V], .int .i64 (s : Int), .int .i64 (T : Int), rowsV (waysC ws)], .bool (true)), (.fn (.func 16) [] [], [], .bool true)] (by kernel_rfl) (by kernel_rfl) (by simp; exact ⟨PureV.of cn, PureV.of (cb1), PureV.of (ca1), PureV.of w_awake⟩) ?_
          simp [h2, h7, h8, h9, h10, h16, h17, hb7, hb4, hV1, hV2, hV3]
          exact finA_drop rfl
end Go.Proofs
