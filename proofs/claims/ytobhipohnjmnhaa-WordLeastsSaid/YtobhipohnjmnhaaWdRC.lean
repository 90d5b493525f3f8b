/-
  Walk: the reference's classes (first words of the states of the least automaton).
-/
import Derived.Test.YtobhipohnjmnhaaWdRL
import Derived.Test.YtobhipohnjmnhaaWdPT
import Derived.Test.YtobhipohnjmnhaaWdPtd
set_option linter.unusedSimpArgs false
set_option linter.unusedVariables false
set_option linter.unusedSectionVars false
namespace Go.Proofs
open Go Go.AH
set_option maxRecDepth 10000
set_option maxHeartbeats 4000000

def foL (n L : Nat) : List Bool := (List.range n).map fun q => decide (q < L)
@[simp] theorem foL_len (n L : Nat) : (foL n L).length = n := by simp [foL]
theorem foL_get (n L q : Nat) (h : q < (foL n L).length) : (foL n L)[q] = decide (q < L) := by simp [foL]
theorem foL_succ (n L : Nat) : foL n (L + 1) = (foL n L).set L true := by
  refine List.ext_getElem (by simp) fun j h1 h2 => ?_
  rw [List.getElem_set, foL_get]
  by_cases e : L = j
  · subst e; simp
  · rw [if_neg e, foL_get]
    have : j < L + 1 ↔ j < L := by omega
    simp [this]
theorem foL_zero (n : Nat) : foL n 0 = List.replicate n false := by
  refine List.ext_getElem (by simp) fun j h1 h2 => ?_
  simp [foL]
def ouL (M : Dfa) (L : Nat) : List (List UInt8) := (List.range M.next.length).map fun q => if q < L then wd M q else []
@[simp] theorem ouL_len (M : Dfa) (L : Nat) : (ouL M L).length = M.next.length := by simp [ouL]
theorem ouL_get (M : Dfa) (L q : Nat) (h : q < (ouL M L).length) : (ouL M L)[q] = if q < L then wd M q else [] := by simp [ouL]
theorem ouL_succ (M : Dfa) (L : Nat) : ouL M (L + 1) = (ouL M L).set L (wd M L) := by
  refine List.ext_getElem (by simp) fun j h1 h2 => ?_
  rw [List.getElem_set, ouL_get]
  by_cases e : L = j
  · subst e; simp
  · rw [if_neg e, ouL_get]
    have : j < L + 1 ↔ j < L := by omega
    simp [this]
theorem wd_zero {M : Dfa} (h : 1 ≤ M.next.length) : wd M 0 = [] := by simp [wd, wIter, show 0 < M.next.length from h]
theorem ouL_one {M : Dfa} (h : 1 ≤ M.next.length) : ouL M 1 = List.replicate M.next.length [] := by
  refine List.ext_getElem (by simp) fun j h1 h2 => ?_
  rw [ouL_get]
  by_cases e : j < 1
  · obtain rfl : j = 0 := by omega
    simp [wd_zero h]
  · simp [e]
theorem ouL_end (M : Dfa) : ouL M M.next.length = classesF M := by
  refine List.ext_getElem? fun j => ?_
  rw [classes_get]
  by_cases h : j < M.next.length
  · rw [List.getElem?_eq_getElem (by simpa using h), ouL_get, if_pos h, if_pos h]
  · rw [List.getElem?_eq_none (by simpa using h), if_neg h]
structure RcG where
  k : Nat
  L : Nat
  bl : Nat
structure RcH where
  i : Nat
  L : Nat
  bl : Nat

theorem w_refClasses (m : Dfa) (hm : m.wf) : Pure Try.prog 26 [m.av] (strsA (classesF (leastF m))) := by
  refine pure_of (acalls_of Try.func26 rfl Try.call26 (by kernel_rfl) (by show _ ≤ (72 : Nat); simp) ?_)
  have cL := w_refLeast m hm
  have can := least_canon hm
  obtain ⟨M, hM⟩ : ∃ M, M = leastF m := ⟨_, rfl⟩
  rw [← hM] at cL can ⊢
  have hw := can.wf
  have hMb := can.bf
  have hn1 := hw.n1; have hnm := hw.nmax; have hk4 := hw.k4
  simp only [Dfa.av] at cL ⊢
  simp
  intro b1 hb1
  simp
  refine cL.use ?_
  simp [hb1]
  intro b3 hb3
  simp at hb3
  simp [hb3, nrowsA]
  refine ⟨by omega, ?_⟩
  intro bo hbo
  simp at hbo
  simp [hb3, hbo]
  refine ⟨by omega, ?_⟩
  intro bf hbf
  simp at hbf
  simp [hb3, hbo, hbf]
  have h0 : 0 < M.next.length := by omega
  simp [h0]
  have hne : ¬ M.next = [] := by intro e; rw [e] at h0; simp at h0
  refine ⟨⟨hn1, ?_⟩, hne⟩
  have hf1 : (List.replicate M.next.length (AV.bool false)).set 0 (.bool true) = (foL M.next.length 1).map .bool := by
    rw [foL_succ, foL_zero, List.map_set, List.map_replicate]
  have ho1 : List.replicate M.next.length (AV.str []) = (ouL M 1).map .str := by rw [ouL_one hn1, List.map_replicate]
  rw [hf1, ho1]
  intro bl0 hbl0
  simp at hbl0
  have hh0 : Half (fun x _ => x) M.k (List.range M.next.length) M 0 0 1 := Half.zero (by simpa using hn1)
  have hlr : (List.range M.next.length).length = M.next.length := by simp
  simp [hb3, hbo, hbf, hbl0]
  refine awp_loop_g (γ := RcG) (fun g t h => ((g.k < g.L ∧ Half (fun x _ => x) M.k (List.range M.next.length) M g.k 0 g.L) ∨ (g.k = g.L ∧ g.L = (List.range M.next.length).length)) ∧ (∀ off, cellsAt h b3 off = some (([.int .i64 (M.k : Int), .sl M.next.length (M.next.map natsA), boolsA M.good] : List AV).drop off)) ∧ (∀ off, cellsAt h bo off = some (((ouL M g.L).map AV.str).drop off)) ∧ (∀ off, cellsAt h bf off = some (((foL M.next.length g.L).map AV.bool).drop off)) ∧ ((∀ off, cellsAt h g.bl off = some (((List.range g.L).map fun x : Nat => AV.int .i64 (x : Int)).drop off)) ∧ ¬ g.bl = bo ∧ ¬ bo = g.bl ∧ ¬ g.bl = bf ∧ ¬ bf = g.bl ∧ ¬ g.bl = b3 ∧ ¬ b3 = g.bl) ∧ t 3 = .ptr b3 0 ∧ t 4 = .osl bo 0 M.next.length 1 ∧ t 5 = .osl bf 0 M.next.length 1 ∧ t 6 = .osl g.bl 0 g.L 1 ∧ t 7 = .int .i64 g.k) (fun g => M.next.length - g.k) (⟨0, 1, bl0⟩) (turnA_self (by simp [hh0, hbo, hbf, hbl0])) ?_
  rintro g t h ⟨hh, hc3, hco, hcf, hbl, h3, h4, h5, h6, h7⟩
  obtain ⟨k, L, bl⟩ := g
  simp only at h3 h4 h5 h6 h7 hh hco hcf hbl
  obtain ⟨hobf, hobf2, hbf3, hbf4, -⟩ := hbf
  obtain ⟨hbo3, hbo4, -⟩ := hbo
  by_cases hlt : k < L
  · obtain ⟨_, hh1⟩ | ⟨q1, _⟩ := hh
    rotate_left
    · omega
    have hkk : k < M.next.length := by have := hh1.le; omega
    have hwk : IntKind.i64.wrap ((k : Int) + 1) = (k : Int) + 1 := wrap_i64 (by omega) (by omega)
    have hwl := wd_len M hkk
    have hwl2 : M.k * k ≤ 4 * 1000000 := Nat.mul_le_mul hk4 (by omega)
    obtain ⟨hb0, hb1', hb2', hb3', hb4', hb5', hb6'⟩ := hbl
    simp [h3, h4, h5, h6, h7, hlt]
    refine awp_loop_g (γ := RcH) (fun g t h => (g.i ≤ M.k) ∧ (Half (fun x _ => x) M.k (List.range M.next.length) M k g.i g.L) ∧ (∀ off, cellsAt h b3 off = some (([.int .i64 (M.k : Int), .sl M.next.length (M.next.map natsA), boolsA M.good] : List AV).drop off)) ∧ (∀ off, cellsAt h bo off = some (((ouL M g.L).map AV.str).drop off)) ∧ (∀ off, cellsAt h bf off = some (((foL M.next.length g.L).map AV.bool).drop off)) ∧ ((∀ off, cellsAt h g.bl off = some (((List.range g.L).map fun x : Nat => AV.int .i64 (x : Int)).drop off)) ∧ ¬ g.bl = bo ∧ ¬ bo = g.bl ∧ ¬ g.bl = bf ∧ ¬ bf = g.bl ∧ ¬ g.bl = b3 ∧ ¬ b3 = g.bl) ∧ t 3 = .ptr b3 0 ∧ t 4 = .osl bo 0 M.next.length 1 ∧ t 5 = .osl bf 0 M.next.length 1 ∧ t 6 = .osl g.bl 0 g.L 1 ∧ t 7 = .int .i64 k ∧ t 8 = .int .i64 g.i) (fun g => M.k - g.i) (⟨0, L, bl⟩) (turnA_self (by simp [h3, h4, h5, h6, h7, hh1, hc3, hco, hcf, hb0, hb1', hb2', hb3', hb4', hb5', hb6'])) ?_
    rintro g t h ⟨hi, hh, hc3, hco, hcf, hbl, h3, h4, h5, h6, h7, h8⟩
    clear hb0 hb1' hb2' hb3' hb4' hb5' hb6' hlt hh1
    obtain ⟨i, L, bl⟩ := g
    simp only at h3 h4 h5 h6 h7 h8 hi hh hco hcf hbl
    obtain ⟨hb0, hb1, hb2, hb3, hb4, hb5, hb6⟩ := hbl
    by_cases hlti : i < M.k
    · have hwi : IntKind.i64.wrap ((i : Int) + 1) = (i : Int) + 1 := wrap_i64 (by omega) (by omega)
      have r1 : M.next[k].length = M.k := hw.rl _ (List.getElem_mem hkk)
      have hkL := hh.aL
      have hLn := hh.le
      rw [hlr] at hLn
      have hnxl := nx_lt hw hkk hlti
      obtain ⟨y, hy⟩ : ∃ y, y = nx M k i := ⟨_, rfl⟩
      have v1 : M.next[k][i] = y := by rw [hy]; simp [nx, hkk, r1, hlti]
      rw [← hy] at hnxl
      simp [h3, h4, h5, h6, h7, h8, hc3, hlti]
      refine awp_draw_text (by kernel_rfl) [] [] (by kernel_rfl) (by kernel_rfl) (by simp) ?_
      simp [h3, h4, h5, h6, h7, h8, hc3, hb0, hkL, hkk, r1, hlti, natsA, v1, hcf, hnxl, foL_get]
      by_cases hL : y < L
      · simp [h3, h4, h5, h6, h7, h8, hL]
        exact turnA_self ⟨⟨i + 1, L, bl⟩, by simp only; omega, by simp only; omega, hh.old hlti (by rw [← hy]; exact hL), hc3, hco, hcf, ⟨hb0, hb1, hb2, hb3, hb4, hb5, hb6⟩, by simp [h3, h4, h5, h6, h7, h8, hwi]⟩
      · obtain ⟨f1, f2, f3, f4⟩ := hh.fresh rfl hlti hMb hlr.symm (by rw [hlr, ← hy]; exact hnxl) (by rw [← hy]; exact hL)
        rw [← hy] at f1
        subst f1
        have hwp2 : wd M y = wd M k ++ [ltr i] := wd_par hw hMb hnxl f3
        have hfs := foL_succ M.next.length y
        have hos := ouL_succ M y
        rw [hwp2] at hos
        have l1 : (wd M k).length + 1 < 4611686018427387904 := by omega
        have hgo : ∀ hv, (ouL M y)[k]'hv = wd M k := fun hv => by rw [ouL_get, if_pos hkL]
        simp [h3, h4, h5, h6, h7, h8, hL, hcf, hnxl]
        refine ⟨by omega, ?_⟩
        refine awp_draw_text (by kernel_rfl) [64] [(.fn (.func 73) [] [], [.int .i64 (i : Int)], .str [ltr i])] (by kernel_rfl) (by kernel_rfl) (by simp; exact PureV.of (w_refletter i (by omega))) ?_
        simp [h3, h4, h5, h6, h7, h8, hb0, hb1, hb2, hb3, hb4, hkL, hkk, hco, hobf, hobf2, hgo, l1, hnxl]
        refine ⟨by omega, ?_⟩
        intro c1 hc1
        simp at hc1
        have p3 := ne_fresh (hc3 0) hc1.2.2.2.2; have pl := ne_fresh (hb0 0) hc1.2.2.2.2
        have hb00 := hb0 0
        simp only [List.drop_zero] at hb00
        simp [h3, h4, h5, h6, h7, h8, hb1, hb2, hb3, hb4, pl, hb00]
        refine ⟨by omega, ?_⟩
        intro bl2 hbl2
        simp [hb1, hb2, hb3, hb4, pl, hc1] at hbl2
        have hq : ¬ bl2 = bo ∧ ¬ bo = bl2 ∧ ¬ bl2 = bf ∧ ¬ bf = bl2 ∧ ¬ bl2 = b3 ∧ ¬ b3 = bl2 := by
          have hor : bl2 = bl ∨ Fresh h bl2 := by simp_all
          rcases hor with rfl | q
          · exact ⟨hb1, hb2, hb3, hb4, hb5, hb6⟩
          · have q3 := ne_fresh (hc3 0) q; have qo := ne_fresh (hco 0) q; have qf := ne_fresh (hcf 0) q
            exact ⟨qo.2, qo.1, qf.2, qf.1, q3.2, q3.1⟩
        obtain ⟨q1, q2, q3, q4, q5, q6⟩ := hq
        have hrs : (List.range (y + 1)).map (fun x : Nat => AV.int .i64 (x : Int)) = (List.range y).map (fun x : Nat => AV.int .i64 (x : Int)) ++ [.int .i64 y] := by
          rw [List.range_succ, List.map_append]; rfl
        simp [h3, h4, h5, h6, h7, h8]
        refine turnA_self ⟨⟨i + 1, y + 1, bl2⟩, by simp only; omega, by simp only; omega, f4, ?_, ?_, ?_, ⟨?_, q1, q2, q3, q4, q5, q6⟩, by simp [h3, h4, h5, h6, h7, h8, hwi]⟩
        · intro off; simp [p3, q5, q6, hb5, hb6, hbf3, hbf4, hbo3, hbo4, hc3]
        · intro off; simp [hos, List.map_set, q1, q2, hb1, hb2, hobf, hobf2, hc1]
        · intro off; simp [hfs, List.map_set, q3, q4, hb3, hb4, hobf, hobf2, hc1]
        · intro off; simp [List.range_succ]
    · obtain rfl : i = M.k := by omega
      simp [h3, h4, h5, h6, h7, h8, hc3]
      have hnext : (k + 1 < L ∧ Half (fun x _ => x) M.k (List.range M.next.length) M (k + 1) 0 L) ∨ (k + 1 = L ∧ L = (List.range M.next.length).length) := by
        by_cases hc : k + 1 < L
        · exact .inl ⟨hc, hh.next hc⟩
        · have := hh.aL
          exact .inr ⟨by omega, hh.done rfl hc hMb hlr.symm⟩
      have := hh.aL
      have := hh.le
      refine turnA_self ⟨⟨k + 1, L, bl⟩, by simp only; omega, by simpa using hnext, hc3, hco, hcf, ⟨hb0, hb1, hb2, hb3, hb4, hb5, hb6⟩, by simp [h3, h4, h5, h6, h7, h8, hwk]⟩
  · obtain ⟨q0, _⟩ | ⟨q1, q2⟩ := hh
    · exact absurd q0 hlt
    · rw [hlr] at q2
      subst q2
      simp [h3, h4, h5, h6, h7, hlt]
      refine finA_all 2 ?_
      rw [ouL_end] at hco
      have hcl := classes_len M
      have hco0 := hco 0
      simp only [List.drop_zero] at hco0
      simp [hco0, hcl, strsA, List.take_of_length_le]
end Go.Proofs
