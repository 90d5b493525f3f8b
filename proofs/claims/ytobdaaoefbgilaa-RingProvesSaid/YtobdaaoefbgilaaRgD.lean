/-
  Ring: walks of configOf, Number, Ready, Config.
-/
import Derived.Test.YtobdaaoefbgilaaRgC
set_option linter.unusedSimpArgs false
set_option linter.unusedVariables false
set_option linter.unusedSectionVars false
namespace Go.Proofs
open Go Go.AH
set_option maxRecDepth 10000
set_option maxHeartbeats 4000000

def natI (l : List Int) : List Nat := l.map Int.toNat
@[simp] theorem natI_len (l : List Int) : (natI l).length = l.length := by simp [natI]
def badC (c : Nat) (x : Int) : Bool := decide (x < 0) || decide ((c : Int) ≤ x)
/-- What is wrong with a configuration. -/
def confE (r : Rul) (l : List Int) : Int := if ¬ l.length = r.m then 7 else if l.any (badC r.c) then 1 else 0
def confA (r : Rul) (l : List Int) : AV := .tup [if confE r l = 0 then cfgA (natI l) else cfgA [], .int .i64 (confE r l)]
theorem conf_cfg {r : Rul} {l : List Int} (h : confE r l = 0) : Cfg r (natI l) := by
  unfold confE at h
  split at h
  · cases h
  · next hl =>
    split at h
    · cases h
    · next hb =>
      refine ⟨by simp only [Decidable.not_not] at hl; simp [hl], fun x hx => ?_⟩
      obtain ⟨y, hy, rfl⟩ := List.mem_map.1 hx
      have hb' : l.any (badC r.c) = false := by simpa using hb
      have := List.any_eq_false.1 hb' y hy
      simp only [badC, Bool.or_eq_true, decide_eq_true_eq, not_or] at this
      omega
theorem cfgL_snoc {l : List Nat} {x : Nat} (h : l.length < 6) : (cfgL l).set l.length (.int .u8 (x : Int)) = cfgL (l ++ [x]) := by
  refine List.ext_getElem (by simp [cfgL]; omega) fun j h1 h2 => ?_
  rw [List.getElem_set]
  simp only [cfgL, List.getElem_map]
  by_cases e : l.length = j
  · subst e; simp
  · rw [if_neg e]
    congr 2
    rw [List.getElem_append, List.getElem_append]
    by_cases hj : j < l.length
    · rw [dif_pos hj, dif_pos (by simp; omega), List.getElem_append_left hj]
    · rw [dif_neg hj, dif_neg (by simp; omega), List.getElem_replicate, List.getElem_replicate]
theorem cfgL_nil : cfgL [] = [.int .u8 0, .int .u8 0, .int .u8 0, .int .u8 0, .int .u8 0, .int .u8 0] := rfl
theorem w_configOf (r : Rul) (hr : r.ok) (l : List Int) (hl : l.length ≤ 1000000) : Pure Try.prog 48 [r.av, listI l] (confA r l) := by
  refine pure_of (acalls_of Try.func48 rfl Try.call48 (by kernel_rfl) (by show _ ≤ (44 : Nat); simp) ?_)
  have q1 := hr.m2; have q2 := hr.m6; have q4 := hr.c6
  have cc := w_Check r hr
  simp only [Rul.av] at cc ⊢
  by_cases hnil : l = []
  · subst hnil
    have e7 : confE r [] = 7 := by unfold confE; rw [if_pos (by simp; omega)]
    have hm0 : ¬ (r.m : Int) = 0 := by omega
    have hm0' : ¬ r.m = 0 := by omega
    have hm0'' : ¬ 0 = r.m := by omega
    have hm03 : ¬ (0 : Int) = (r.m : Int) := by omega
    simp [listI, confA, e7]
    intro b2 hb2
    simp
    intro b4 hb4
    simp at hb4
    simp [hb4]
    refine cc.use ?_
    simp [hb4, hm0, hm0', hm0'', hm03]
    refine finA_drop ?_
    rw [confA, e7, if_neg (by omega)]; rfl
  · rw [listI_ne hnil]
    simp [intsA]
    intro b2 hb2
    simp
    intro b4 hb4
    simp at hb4
    simp [hb4]
    refine cc.use ?_
    by_cases hlen : l.length = r.m
    · have hlenI : (l.length : Int) = r.m := by omega
      simp [hb4, hlen]
      intro b7 hb7
      simp at hb7
      simp [hb4, hb7]
      refine awp_loop_g (γ := Nat) (fun k t h => (k ≤ r.m) ∧ (∀ i (hi : i < l.length), i < k → badC r.c l[i] = false) ∧ t 2 = .ptr b2 0 ∧ t 4 = .ptr b4 0 ∧ t 7 = .ptr b7 0 ∧ t 22 = .sl r.m (l.map (.int .i64)) ∧ t 23 = .int .i64 r.m ∧ t 24 = .int .i64 k ∧ h = ((AHeap.empty.upd b2 (.cells [.int .i64 r.m, .int .i64 r.c, rowsA r.next])).upd b4 (.cells [.int .u8 0, .int .u8 0, .int .u8 0, .int .u8 0, .int .u8 0, .int .u8 0])).upd b7 (.cells (cfgL (natI (l.take k))))) (fun k => r.m - k) (0) (turnA_self (by simp [hb4, hb7, natI, cfgL_nil])) ?_
      rintro k t h ⟨hk, hgood, h2, h4, h7, h22, h23, h24, rfl⟩
      have hcl : ∀ l' : List Nat, l'.length ≤ 6 → (cfgL l').length = 6 := fun l' h => cfgL_len h
      have hz : ∀ l' : List Nat, l'.length ≤ 6 → splice [.int .u8 0, .int .u8 0, .int .u8 0, .int .u8 0, .int .u8 0, .int .u8 0] 0 (cfgL l') = cfgL l' := fun l' h => splice_all (by rw [hcl l' h]; rfl)
      have hsix : splice [AV.int .u8 0, .int .u8 0, .int .u8 0, .int .u8 0, .int .u8 0, .int .u8 0] 0 [.int .u8 0, .int .u8 0, .int .u8 0, .int .u8 0, .int .u8 0, .int .u8 0] = [.int .u8 0, .int .u8 0, .int .u8 0, .int .u8 0, .int .u8 0, .int .u8 0] := rfl
      by_cases hlt : k < r.m
      · have hwk : IntKind.i64.wrap ((k : Int) + 1) = (k : Int) + 1 := wrap_i64 (by omega) (by omega)
        have hkl : k < l.length := by omega
        have hk6 : (k : Int) < 6 := by omega
        have hk6' : k + 1 ≤ 6 := by omega
        have htl : (natI (l.take k)).length = k := by simp; omega
        have hts : natI (l.take (k + 1)) = natI (l.take k) ++ [l[k].toNat] := by unfold natI; rw [List.take_succ_eq_append_getElem hkl, List.map_append]; rfl
        obtain ⟨x, hx⟩ : ∃ x, x = l[k] := ⟨_, rfl⟩
        have hx' : l[k]'hkl = x := hx.symm
        rw [hx'] at hts
        by_cases hbad : badC r.c x = true
        · have e1 : confE r l = 1 := by
            unfold confE
            rw [if_neg (by omega), if_pos (List.any_eq_true.2 ⟨x, by rw [hx]; exact List.getElem_mem hkl, hbad⟩)]
          have hxb := hbad
          simp only [badC, Bool.or_eq_true, decide_eq_true_eq] at hxb
          rcases hxb with n1 | n1
          · simp [h2, h4, h7, h22, h23, h24, hlt, hkl, hx', n1, hb4, hb7, hsix]
            refine finA_drop ?_
            simp [confA, e1, cfgA, cfgL_nil]
          · have n0 : ¬ x < 0 := by omega
            simp [h2, h4, h7, h22, h23, h24, hlt, hkl, hx', n0, n1, hb4, hb7, hsix]
            refine finA_drop ?_
            simp [confA, e1, cfgA, cfgL_nil]
        · have hxb := hbad
          simp only [badC, Bool.or_eq_true, decide_eq_true_eq, not_or] at hxb
          obtain ⟨n0, n1⟩ := hxb
          obtain ⟨y, hy⟩ : ∃ y : Nat, y = x.toNat := ⟨_, rfl⟩
          have hxy : x = (y : Int) := by omega
          have v3 : IntKind.u8.wrap x = (y : Int) := by rw [hxy]; exact wrap_u8 (by omega) (by omega)
          rw [← hy] at hts
          have hset := cfgL_snoc (l := natI (l.take k)) (x := y) (by omega)
          rw [htl, ← hts] at hset
          have hsp := splice_one (l := cfgL (natI (l.take k))) (i := k) (v := AV.int .u8 (y : Int)) (by rw [hcl _ (by omega)]; omega)
          simp [h2, h4, h7, h22, h23, h24, hlt, hkl, hx', n0, n1, hb4, hb7, hk6, hk6', v3, hcl _ (show (natI (l.take k)).length ≤ 6 by omega)]
          refine turnA_self ⟨k + 1, by omega, by omega, fun i hi hik => ?_, by simp [h2, h4, h7, h22, h23, h24, hwk, hsp, hset]⟩
          by_cases e : i = k
          · subst e; rw [hx']; simpa using hbad
          · exact hgood i hi (by omega)
      · obtain rfl : k = r.m := by omega
        have hta : l.take r.m = l := List.take_of_length_le (by omega)
        have e0 : confE r l = 0 := by
          unfold confE
          rw [if_neg (by omega)]
          have : l.any (badC r.c) = false := by
            rw [List.any_eq_false]
            intro x hx
            obtain ⟨i, hi, rfl⟩ := List.mem_iff_getElem.1 hx
            simp [hgood i hi (by omega)]
          rw [this]; rfl
        have hl6 : (natI l).length ≤ 6 := by simp; omega
        have htk : (cfgL (natI l)).take 6 = cfgL (natI l) := List.take_of_length_le (by rw [hcl _ hl6]; omega)
        simp [h2, h4, h7, h22, h23, h24, hta, hb4, hb7, hcl _ hl6, htk, hz _ hl6]
        refine finA_drop ?_
        simp [confA, e0, cfgA]
    · have hlenI : ¬ (l.length : Int) = r.m := by omega
      have e7 : confE r l = 7 := by unfold confE; rw [if_pos hlen]
      simp [hb4, hlen, hlenI, confA, e7]
      exact finA_drop rfl
end Go.Proofs
