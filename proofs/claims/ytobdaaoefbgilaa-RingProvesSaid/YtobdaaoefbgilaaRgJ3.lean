/-
  Ring: where steps lead: the iterator.
-/
import Derived.Test.YtobdaaoefbgilaaRgJ2
set_option linter.unusedSimpArgs false
set_option linter.unusedVariables false
set_option linter.unusedSectionVars false
namespace Go.Proofs
open Go Go.AH
set_option maxRecDepth 10000
set_option maxHeartbeats 4000000

structure LG (γ : Type) where
  k : Nat
  g : γ
  h : AHeap
theorem succF_take {r : Rul} {n k : Nat} (hk : k < (readyF r (ofF r.c r.m n)).length) : (succF r n).take (k + 1) = (succF r n).take k ++ [numF r.c (stepF r (ofF r.c r.m n) [(readyF r (ofF r.c r.m n))[k]])] := by
  rw [List.take_succ_eq_append_getElem (by simpa [succF] using hk)]
  simp [succF]
theorem it_single (r : Rul) (hr : r.ok) (joint : Bool) (b n : Nat) (hn : n < r.size) : IterH Try.prog (JAt r joint b) (mvFn false b n) (fun t : Nat => [.int .i64 t]) (succF r n) true := by
  intro γ I step go y g0 h0 hS hgo hI _ hy
  refine acalls_of Try.func82 rfl Try.call82 (by kernel_rfl) (by show _ ≤ (49 : Nat); simp) ?_
  have q1 := hr.m2; have q2 := hr.m6; have q3 := hr.c2; have q4 := hr.c6; have q5 := hr.sz
  have cf := of_cfg hr n
  obtain ⟨l, hl⟩ : ∃ l, l = ofF r.c r.m n := ⟨_, rfl⟩
  have c1 := w_config r hr n hn
  rw [← hl] at c1 cf
  obtain ⟨R, hR⟩ : ∃ R, R = readyF r l := ⟨_, rfl⟩
  have hRl : R.length ≤ r.m := by rw [hR]; exact readyF_len0 r l
  have hRok : ∀ i ∈ R, i < r.m ∧ 0 ≤ takesF r l i := by rw [hR]; exact fun i hi => readyF_ok0 i hi
  simp only [Rul.av] at c1
  have e0 : ∀ h, JAt r joint b h → ∀ off, cellsAt h b off = some (([.int .i64 r.m, .int .i64 r.c, rowsA r.next, .int .i64 (r.size : Nat), .sl r.size (readyL r r.size), jMoves joint b] : List AV).drop off) := fun h q => q
  have hn' : n < (readyL r r.size).length := by simpa using hn
  have hg := readyL_get hn'
  rw [← hl, ← hR] at hg
  have l6 : (cfgL l).length = 6 := cfgL_len (by have := cf.len; omega)
  have hz : splice [.int .u8 0, .int .u8 0, .int .u8 0, .int .u8 0, .int .u8 0, .int .u8 0] 0 (cfgL l) = cfgL l := splice_all (by rw [l6]; rfl)
  have ltk : (cfgL l).take 6 = cfgL l := List.take_of_length_le (by omega)
  have j0 := e0 h0 (hS _ _ hI)
  simp
  refine awp_draw_text (by kernel_rfl) [11] [(.fn (.func 59) [] [], [.agg [.int .i64 r.m, .int .i64 r.c, rowsA r.next], .int .i64 n], cfgA l)] (by kernel_rfl) (by kernel_rfl) (by simp; exact PureV.of c1) ?_
  simp [j0, gamGet_here, cfgA]
  intro b4 hb4
  have n4 := ne_fresh (j0 0) hb4
  simp [l6, hz]
  refine awp_draw_text (by kernel_rfl) [] [] (by kernel_rfl) (by kernel_rfl) (by simp) ?_
  simp [j0, n4, hn, hg, -lenA, lenA_listA]
  refine awp_loop_g (γ := LG γ) (fun q t h => (q.k ≤ R.length) ∧ (go q.g = true) ∧ (I q.g q.h) ∧ (runIt step go g0 ((succF r n).take q.k) = q.g) ∧ t 0 = y ∧ t 1 = .fptr [.ptr b 0] ∧ t 2 = .fptr [.int .i64 n] ∧ t 4 = .fptr (cfgL l) ∧ t 19 = .int .i64 R.length ∧ t 20 = .int .i64 q.k ∧ h = q.h) (fun q => R.length - q.k) (⟨0, g0, h0⟩) (turnA_ptr 4 b4 (cfgL l) (by simp) hb4 (by simp [hgo, hI, runIt])) ?_
  rintro q t hx ⟨hk, hgq, hIq, hrun, h0, h1, h2, h4, h19, h20, ex⟩
  rw [ex]
  clear ex
  obtain ⟨k, g, h⟩ := q
  simp only at h0 h1 h2 h4 h19 h20 hk hgq hIq hrun
  have j1 := e0 h (hS _ _ hIq)
  have hsl : (succF r n).length = R.length := by rw [hR, hl]; simp [succF]
  by_cases hlt : k < R.length
  · have hwk : IntKind.i64.wrap ((k : Int) + 1) = (k : Int) + 1 := wrap_i64 (by omega) (by omega)
    have hRn : ¬ R = [] := fun e => by rw [e] at hlt; simp at hlt
    have hla : listA R = .sl R.length (R.map fun x : Nat => AV.int .i64 (x : Int)) := by unfold listA; rw [if_neg hRn]; rfl
    obtain ⟨i, hi⟩ : ∃ i, i = R[k] := ⟨_, rfl⟩
    have hi' : R[k]'hlt = i := hi.symm
    have hms : ∀ i' ∈ [i], i' < r.m ∧ 0 ≤ takesF r l i' := by intro i' h'; simp at h'; subst h'; exact hRok _ (by rw [hi]; exact List.getElem_mem hlt)
    have c2 := w_step r hr l cf [i] hms (by simp)
    have cf2 := step_cfg hr cf hms
    have c3 := w_number r hr (stepF r l [i]) cf2
    simp only [Rul.av, cfgA] at c2 c3
    obtain ⟨x, hx⟩ : ∃ x, x = numF r.c (stepF r l [i]) := ⟨_, rfl⟩
    rw [← hx] at c3
    have hgx : (succF r n)[k]? = some x := by
      have : k < (succF r n).length := by omega
      rw [List.getElem?_eq_getElem this, hx]
      congr 1
      subst hR hl
      simp only [succF, List.getElem_map, hi']
    have hts : (succF r n).take (k + 1) = (succF r n).take k ++ [x] := by
      have : k < (succF r n).length := by omega
      rw [List.take_succ_eq_append_getElem this]
      rw [List.getElem?_eq_getElem this] at hgx
      simp only [Option.some.injEq] at hgx
      rw [hgx]
    have hgf : g = ((succF r n).take k).foldl step g0 := by rw [← hrun]; exact runIt_go _ _ (by rw [hrun]; exact hgq)
    have cy := hy k g x h hgx hgf hgq hIq
    have hrs : runIt step go g0 ((succF r n).take (k + 1)) = step g x := by rw [hts, runIt_snoc (by rw [hrun]; exact hgq), hrun]
    have hdt : List.take 1 (List.drop k (R.map fun x : Nat => AV.int .i64 (x : Int))) = [AV.int .i64 (i : Int)] := by
      rw [← List.map_drop, ← List.map_take, List.drop_eq_getElem_cons hlt, hi']; simp
    have c2' : AH.Pure Try.prog 52 [.agg [.int .i64 r.m, .int .i64 r.c, rowsA r.next], .agg (cfgL l), .sl 1 [.int .i64 (i : Int)]] (.agg (cfgL (stepF r l [i]))) := c2
    simp [h0, h1, h2, h4, h19, h20, hlt]
    refine awp_draw_text (by kernel_rfl) [44] [(.fn (.func 52) [] [], [.agg [.int .i64 r.m, .int .i64 r.c, rowsA r.next], .agg (cfgL l), .sl 1 [.int .i64 (i : Int)]], .agg (cfgL (stepF r l [i])))] (by kernel_rfl) (by kernel_rfl) (by simp; exact PureV.of c2') ?_
    have hk1 : k + 1 ≤ R.length := by omega
    have hkI1 : (k : Int) + 1 ≤ (R.length : Int) := by omega
    have hsub : ((k : Int) + 1 - (k : Int)).toNat = 1 := by omega
    have hk0 : (k : Int) ≤ (k : Int) + 1 := by omega
    have hkn : ((k : Int) + 1).toNat = k + 1 := by omega
    simp [h0, h1, h2, h4, h19, h20, j1, l6, ltk, hn, hg, hla, hwk, hk1, hkI1, hsub, hk0, hkn, hdt, gamGet_here]
    refine c3.use ?_
    simp [h0, h1, h2, h4, h19, h20]
    refine ACallV.mono cy ?_
    rintro r' h' ⟨rfl, hI'⟩
    cases hgo2 : go (step g x) with
    | false =>
      have hall : runIt step go g0 (succF r n) = step g x := by
        have := runIt_off (step := step) (go := go) ((succF r n).take (k + 1)) ((succF r n).drop (k + 1)) g0 hgo (by rw [hrs]; exact hgo2)
        rw [List.take_append_drop, hrs] at this
        exact this
      simp [hgo2]
      refine finA_self ?_
      rw [hall]; exact hI'
    | true =>
      simp [h0, h1, h2, h4, h19, h20, hgo2]
      exact turnA_self ⟨⟨k + 1, step g x, h'⟩, by simp only; omega, by simp only; omega, hgo2, hI', hrs, by simp [h0, h1, h2, h4, h19, h20, hwk]⟩
  · have hkE : k = R.length := by omega
    simp [h0, h1, h2, h4, h19, h20, hlt]
    refine finA_self ?_
    rw [hkE, ← hsl, List.take_length] at hrun
    rw [hrun]; exact hIq
end Go.Proofs
