/-
  Ring: walks of Number, Ready, Config, Step.
-/
import Derived.Test.YtobdaaoefbgilaaRgF
set_option linter.unusedSimpArgs false
set_option linter.unusedVariables false
set_option linter.unusedSectionVars false
namespace Go.Proofs
open Go Go.AH
set_option maxRecDepth 10000
set_option maxHeartbeats 4000000

theorem cfgL6 {r : Rul} (hr : r.ok) {l : List Int} (h : confE r l = 0) : (cfgL (natI l)).length = 6 := by
  have := (conf_cfg h).len
  exact cfgL_len (by have := hr.m6; omega)
theorem cfgL6' : (cfgL []).length = 6 := rfl
/-- The array that configOf hands back. -/
def confL (r : Rul) (l : List Int) : List AV := if confE r l = 0 then cfgL (natI l) else cfgL []
theorem confL_len {r : Rul} (hr : r.ok) (l : List Int) : (confL r l).length = 6 := by
  unfold confL
  split
  · next h => exact cfgL6 hr h
  · rfl
theorem confA_eq (r : Rul) (l : List Int) : confA r l = .tup [.agg (confL r l), .int .i64 (confE r l)] := by
  unfold confA confL cfgA
  split <;> rfl

theorem w_Number (r : Rul) (hr : r.ok) (l : List Int) (hl : l.length ≤ 1000000) : Pure Try.prog 20 [r.av, listI l] (.tup [.int .i64 (if confE r l = 0 then (numF r.c (natI l) : Nat) else 0 : Int), .int .i64 (confE r l)]) := by
  refine pure_of (acalls_of Try.func20 rfl Try.call20 (by kernel_rfl) (by show _ ≤ (20 : Nat); simp) ?_)
  have cc := w_configOf r hr l hl
  have h6 := confL_len hr l
  have htk : (confL r l).take 6 = confL r l := List.take_of_length_le (by omega)
  rw [confA_eq] at cc
  simp only [Rul.av] at cc ⊢
  simp
  intro b2 hb2
  simp
  refine cc.use ?_
  simp
  intro b6 hb6
  simp at hb6
  simp [hb6, h6]
  by_cases he : confE r l = 0
  · have cn := w_number r hr (natI l) (conf_cfg he)
    simp only [Rul.av, cfgA] at cn
    have hcl : confL r l = cfgL (natI l) := by unfold confL; rw [if_pos he]
    have hz : splice [.int .u8 0, .int .u8 0, .int .u8 0, .int .u8 0, .int .u8 0, .int .u8 0] 0 (confL r l) = confL r l := splice_all (by rw [h6]; rfl)
    simp [he, hb6, h6, htk, hz]
    rw [hcl]
    refine cn.use ?_
    simp
    exact finA_drop rfl
  · simp [he]
    exact finA_drop rfl

theorem w_Ready (r : Rul) (hr : r.ok) (l : List Int) (hl : l.length ≤ 1000000) : Pure Try.prog 21 [r.av, listI l] (.tup [if confE r l = 0 then listA (readyF r (natI l)) else .nilsl, .int .i64 (confE r l)]) := by
  refine pure_of (acalls_of Try.func21 rfl Try.call21 (by kernel_rfl) (by show _ ≤ (20 : Nat); simp) ?_)
  have cc := w_configOf r hr l hl
  have h6 := confL_len hr l
  have htk : (confL r l).take 6 = confL r l := List.take_of_length_le (by omega)
  rw [confA_eq] at cc
  simp only [Rul.av] at cc ⊢
  simp
  intro b2 hb2
  simp
  refine cc.use ?_
  simp
  intro b6 hb6
  simp at hb6
  simp [hb6, h6]
  by_cases he : confE r l = 0
  · have cn := w_ready r hr (natI l) (conf_cfg he)
    simp only [Rul.av, cfgA] at cn
    have hcl : confL r l = cfgL (natI l) := by unfold confL; rw [if_pos he]
    have hz : splice [.int .u8 0, .int .u8 0, .int .u8 0, .int .u8 0, .int .u8 0, .int .u8 0] 0 (confL r l) = confL r l := splice_all (by rw [h6]; rfl)
    simp [he, hb6, h6, htk, hz]
    rw [hcl]
    refine cn.use ?_
    simp
    exact finA_drop rfl
  · simp [he]
    exact finA_drop rfl

theorem w_Config (r : Rul) (hr : r.ok) (n : Int) : Pure Try.prog 26 [r.av, .int .i64 n] (if 0 ≤ n ∧ n < (r.size : Int) then .tup [natsA (ofF r.c r.m n.toNat), .int .i64 0] else .tup [.nilsl, .int .i64 1]) := by
  refine pure_of (acalls_of Try.func26 rfl Try.call26 (by kernel_rfl) (by show _ ≤ (28 : Nat); simp) ?_)
  have q1 := hr.m2; have q2 := hr.m6; have q3 := hr.c2; have q4 := hr.c6; have q5 := hr.sz
  have cc := w_Check r hr
  have cs := w_size r.m r.c q1 q2 q3 q4 q5
  simp only [Rul.av] at cc ⊢
  simp
  intro b2 hb2
  simp
  refine cc.use ?_
  by_cases h0 : n < 0
  · have hneg : ¬ (0 ≤ n ∧ n < (r.size : Int)) := by omega
    simp [h0, hneg]
    exact finA_drop rfl
  · simp [h0]
    refine cs.use ?_
    by_cases h1 : (r.size : Int) ≤ n
    · have hneg : ¬ (0 ≤ n ∧ n < (r.size : Int)) := by omega
      have h1' : (pw r.c r.m : Int) ≤ n := h1
      simp [h1', hneg]
      exact finA_drop rfl
    · obtain ⟨k, rfl⟩ : ∃ k : Nat, n = k := ⟨n.toNat, by omega⟩
      have hpos : 0 ≤ (k : Int) ∧ (k : Int) < (r.size : Int) := by omega
      have h1' : ¬ (pw r.c r.m : Int) ≤ (k : Int) := h1
      have h1'' : ¬ pw r.c r.m ≤ k := by omega
      have c1 := w_config r hr k (by omega)
      have c2 := w_listed r hr (ofF r.c r.m k) (of_cfg hr k)
      simp only [Rul.av] at c1 c2
      rw [if_pos hpos]
      simp [h1', h1'']
      refine awp_draw_text (by kernel_rfl) [26, 27] [(.fn (.func 59) [] [], [.agg [.int .i64 r.m, .int .i64 r.c, rowsA r.next], .int .i64 (k : Int)], cfgA (ofF r.c r.m k)),
        (.fn (.func 53) [] [], [.agg [.int .i64 r.m, .int .i64 r.c, rowsA r.next], cfgA (ofF r.c r.m k)], natsA (ofF r.c r.m k))] (by kernel_rfl) (by kernel_rfl) (by simp; exact ⟨PureV.of c1, PureV.of c2⟩) ?_
      simp [gamGet_here, gamGet_cons]
      exact finA_drop rfl

/-- Not rising, or no machine: as Step sees it. -/
def badM (m : Int) : Int → List Int → Bool
  | _, [] => false
  | last, i :: is => decide (i ≤ last) || decide (m ≤ i) || badM m i is
theorem badM_ok {m : Int} : ∀ {ms : List Int} {last : Int}, badM m last ms = false → ∀ i ∈ ms, last < i ∧ i < m
  | [], _, _, i, hi => by cases hi
  | j :: ms, last, h, i, hi => by
    simp only [badM, Bool.or_eq_false_iff, decide_eq_false_iff_not] at h
    rcases List.mem_cons.1 hi with rfl | hi
    · omega
    · have := badM_ok h.2 i hi
      omega
def lastM (ms : List Int) (k : Nat) : Int := if k = 0 then -1 else ms.getD (k - 1) 0
theorem badM_drop {m : Int} {ms : List Int} {k : Nat} (hk : k < ms.length) : badM m (lastM ms k) (ms.drop k) = (decide (ms[k] ≤ lastM ms k) || decide (m ≤ ms[k]) || badM m (lastM ms (k + 1)) (ms.drop (k + 1))) := by
  rw [List.drop_eq_getElem_cons hk, badM]
  have : lastM ms (k + 1) = ms[k] := by simp [lastM, hk]
  rw [this]
def stepE (r : Rul) (l ms : List Int) : Int :=
  if ¬ confE r l = 0 then confE r l else if badM r.m (-1) ms = true then 1 else if ms = [] then 1 else if ms.any (fun i => decide (takesF r (natI l) i.toNat < 0)) = true then 81 else 0

theorem w_Step1 (r : Rul) (hr : r.ok) (l : List Nat) (hl : Cfg r l) (b3 b8 : Nat) (H : AHeap) (e3 : ∀ off, cellsAt H b3 off = some (([AV.int .i64 (r.m : Int), .int .i64 (r.c : Int), rowsA r.next] : List AV).drop off)) (e8 : ∀ off, cellsAt H b8 off = some ((cfgL l).drop off)) (i : Int) (h0 : 0 ≤ i) (hi : i < r.m) :
    ACallV Try.prog (.fn (.func 55) [] [.ptr b3 0, .ptr b8 0]) [.int .i64 i] H fun r' h' => r' = .bool (decide (takesF r l i.toNat < 0)) ∧ h' = H := by
  obtain ⟨k, rfl⟩ : ∃ k : Nat, i = k := ⟨i.toNat, by omega⟩
  refine acalls_of Try.func55 rfl Try.call55 (by kernel_rfl) (by show _ ≤ (10 : Nat); simp) ?_
  have ct := w_takes r hr l hl k (by omega)
  have h6 : (cfgL l).length = 6 := cfgL_len (by have := hl.len; have := hr.m6; omega)
  have htk : (cfgL l).take 6 = cfgL l := List.take_of_length_le (by omega)
  simp only [Rul.av, cfgA] at ct
  simp [e3, e8, h6, htk]
  refine ct.use ?_
  simp
  exact finA_self ⟨rfl, rfl⟩

theorem w_Step (r : Rul) (hr : r.ok) (l : List Int) (hl : l.length ≤ 1000000) (ms : List Int) (hml : ms.length ≤ 1000000) : Pure Try.prog 22 [r.av, listI l, listI ms] (.tup [if stepE r l ms = 0 then natsA (stepF r (natI l) (natI ms)) else .nilsl, .int .i64 (stepE r l ms)]) := by
  refine pure_of (acalls_of Try.func22 rfl Try.call22 (by kernel_rfl) (by show _ ≤ (51 : Nat); simp) ?_)
  have q1 := hr.m2; have q2 := hr.m6
  have cc := w_configOf r hr l hl
  have c6 := confL_len hr l
  have htk : (confL r l).take 6 = confL r l := List.take_of_length_le (by omega)
  have hz : splice [.int .u8 0, .int .u8 0, .int .u8 0, .int .u8 0, .int .u8 0, .int .u8 0] 0 (confL r l) = confL r l := splice_all (by rw [c6]; rfl)
  rw [confA_eq] at cc
  simp only [Rul.av] at cc ⊢
  simp
  intro b3 hb3
  simp
  refine cc.use ?_
  simp
  intro b8 hb8
  simp at hb8
  simp [hb8, c6, hz]
  by_cases he : confE r l = 0
  · have hcfg := conf_cfg he
    have hcl : confL r l = cfgL (natI l) := by unfold confL; rw [if_pos he]
    by_cases hms : ms = []
    · subst hms
      have hs : stepE r l [] = 1 := by unfold stepE; rw [if_neg (by simpa using he), if_neg (by simp [badM]), if_pos rfl]
      simp [he, listI]
      refine awp_loop_g (γ := Nat) (fun k t h => t 2 = .nilsl ∧ t 23 = .int .i64 0 ∧ t 24 = .int .i64 0) (fun k => 0) (0) (turnA_self (by simp)) ?_
      rintro k t h ⟨h2, h23, h24⟩
      simp [h2, h23, h24]
      exact finA_drop (by simp [hs])
    · simp [he, listI, hms, intsA]
      obtain ⟨H, hH⟩ : ∃ H, H = (AHeap.empty.upd b3 (.cells [.int .i64 r.m, .int .i64 r.c, rowsA r.next])).upd b8 (.cells (confL r l)) := ⟨_, rfl⟩
      have e3 : ∀ off, cellsAt H b3 off = some (([AV.int .i64 (r.m : Int), .int .i64 (r.c : Int), rowsA r.next] : List AV).drop off) := by intro off; rw [hH]; simp [hb8]
      have e8 : ∀ off, cellsAt H b8 off = some ((cfgL (natI l)).drop off) := by intro off; rw [hH]; simp [hb8, hcl]
      rw [← hH]
      clear hH
      refine awp_loop_g (γ := Nat) (fun k t h => (k ≤ ms.length) ∧ (badM r.m (-1) ms = badM r.m (lastM ms k) (ms.drop k)) ∧ t 2 = .sl ms.length (ms.map (.int .i64)) ∧ t 3 = .ptr b3 0 ∧ t 8 = .ptr b8 0 ∧ t 10 = .int .i64 (lastM ms k) ∧ t 22 = .sl ms.length (ms.map (.int .i64)) ∧ t 23 = .int .i64 ms.length ∧ t 24 = .int .i64 k ∧ h = H) (fun k => ms.length - k) (0) (turnA_self (by simp [lastM])) ?_
      rintro k t h ⟨hk, hbad, h2, h3, h8, h10, h22, h23, h24, rfl⟩
      by_cases hlt : k < ms.length
      · have hwk : IntKind.i64.wrap ((k : Int) + 1) = (k : Int) + 1 := wrap_i64 (by omega) (by omega)
        rw [badM_drop hlt] at hbad
        obtain ⟨x, hx⟩ : ∃ x, x = ms[k] := ⟨_, rfl⟩
        have hx' : ms[k]'hlt = x := hx.symm
        have hnx : lastM ms (k + 1) = x := by simp [lastM, hlt, hx]
        rw [hx'] at hbad
        by_cases g1 : x ≤ lastM ms k
        · have hs : stepE r l ms = 1 := by unfold stepE; rw [if_neg (by simpa using he), if_pos (by rw [hbad]; simp [g1])]
          simp [h2, h3, h8, h10, h22, h23, h24, hlt, hx', g1]
          exact finA_drop (by simp [hs])
        · by_cases g2 : (r.m : Int) ≤ x
          · have hs : stepE r l ms = 1 := by unfold stepE; rw [if_neg (by simpa using he), if_pos (by rw [hbad]; simp [g2])]
            simp [h2, h3, h8, h10, h22, h23, h24, hlt, hx', g1, g2, e3]
            exact finA_drop (by simp [hs])
          · simp [h2, h3, h8, h10, h22, h23, h24, hlt, hx', g1, g2, e3]
            refine turnA_self ⟨k + 1, by omega, by omega, by rw [hbad]; simp [g1, g2], by simp [h2, h3, h8, h10, h22, h23, h24, hwk, hnx]⟩
      · obtain rfl : k = ms.length := by omega
        rw [List.drop_length] at hbad
        have hb0 : badM r.m (-1) ms = false := by rw [hbad]; rfl
        have hin := badM_ok hb0
        have hm0 : ¬ (ms.length : Int) = 0 := by simpa using hms
        have hfun : ∀ x ∈ ms, ACallV Try.prog (.fn (.func 55) [] [.ptr b3 0, .ptr b8 0]) [.int .i64 x] h fun r' h' => r' = .bool (decide (takesF r (natI l) x.toNat < 0)) ∧ h' = h := fun x hx => by
          have := hin x hx
          exact w_Step1 r hr (natI l) hcfg b3 b8 h e3 e8 x (by omega) this.2
        have cf := w_containsFunc ms (by omega) (.fn (.func 55) [] [.ptr b3 0, .ptr b8 0]) (fun x => decide (takesF r (natI l) x.toNat < 0)) h hfun
        simp only [intsA] at cf
        simp [h2, h3, h8, h10, h22, h23, h24, hms]
        refine cf.use ?_
        by_cases ha : ms.any (fun i => decide (takesF r (natI l) i.toNat < 0)) = true
        · have hs : stepE r l ms = 81 := by unfold stepE; rw [if_neg (by simpa using he), if_neg (by simp [hb0]), if_neg hms, if_pos ha]
          have ha' : anyI ms (fun x => decide (takesF r (natI l) x.toNat < 0)) = true := ha
          simp [h2, h3, h8, h10, h22, h23, h24, ha']
          exact finA_drop (by simp [hs])
        · have hs : stepE r l ms = 0 := by unfold stepE; rw [if_neg (by simpa using he), if_neg (by simp [hb0]), if_neg hms, if_neg ha]
          have ha' : anyI ms (fun x => decide (takesF r (natI l) x.toNat < 0)) = false := by simpa [anyI] using ha
          have hmsok : ∀ i ∈ natI ms, i < r.m ∧ 0 ≤ takesF r (natI l) i := by
            intro i hi
            obtain ⟨x, hx, rfl⟩ := List.mem_map.1 hi
            have := hin x hx
            have h2 := List.any_eq_false.1 (by simpa using ha : ms.any (fun i => decide (takesF r (natI l) i.toNat < 0)) = false) x hx
            simp at h2
            omega
          have c1 := w_step r hr (natI l) hcfg (natI ms) hmsok (by simpa using hml)
          have c2 := w_listed r hr (stepF r (natI l) (natI ms)) (step_cfg hr hcfg hmsok)
          have hmn : natsA (natI ms) = .sl ms.length (ms.map (.int .i64)) := by
            unfold natsA
            rw [natI_len]
            congr 1
            unfold natI
            rw [List.map_map]
            apply List.map_congr_left
            intro x hx
            have := hin x hx
            simp only [Function.comp_apply]
            congr 1
            omega
          rw [hmn] at c1
          have n6 : (cfgL (natI l)).length = 6 := cfgL6 hr he
          have ntk : (cfgL (natI l)).take 6 = cfgL (natI l) := List.take_of_length_le (by omega)
          simp only [Rul.av] at c1 c2
          simp [h2, h3, h8, h10, h22, h23, h24, ha']
          refine awp_draw_text (by kernel_rfl) [49, 50] [(.fn (.func 52) [] [], [.agg [.int .i64 r.m, .int .i64 r.c, rowsA r.next], cfgA (natI l), .sl ms.length (ms.map (.int .i64))], cfgA (stepF r (natI l) (natI ms))),
            (.fn (.func 53) [] [], [.agg [.int .i64 r.m, .int .i64 r.c, rowsA r.next], cfgA (stepF r (natI l) (natI ms))], natsA (stepF r (natI l) (natI ms)))] (by kernel_rfl) (by kernel_rfl) (by simp; exact ⟨PureV.of c1, PureV.of c2⟩) ?_
          simp [h2, h3, h8, h10, h22, h23, h24, e3, e8, n6, ntk, cfgA, gamGet_here, gamGet_cons]
          exact finA_drop (by simp [hs])
  · have hs : stepE r l ms = confE r l := by unfold stepE; rw [if_pos (by simpa using he)]
    simp [he]
    exact finA_drop (by simp [hs, he])
end Go.Proofs
