/-
  Ring: walks of the reference's Config, Size, Play and of the law's small functions.
-/
import Derived.Test.YtobdaaoefbgilaaRgE
set_option linter.unusedSimpArgs false
set_option linter.unusedVariables false
set_option linter.unusedSectionVars false
namespace Go.Proofs
open Go Go.AH
set_option maxRecDepth 10000
set_option maxHeartbeats 4000000

theorem nats_ints (l : List Nat) : natsA l = intsA (l.map fun x : Nat => (x : Int)) := by simp [natsA, intsA, Function.comp_def]
theorem listA_I (l : List Nat) : listA l = listI (l.map fun x : Nat => (x : Int)) := by
  unfold listA listI
  by_cases h : l = []
  · subst h; rfl
  · rw [if_neg h, if_neg (by simpa using h), nats_ints]
theorem natI_nat (l : List Nat) : natI (l.map fun x : Nat => (x : Int)) = l := by simp [natI, Function.comp_def]

theorem r_Config (r : Rul) (hr : r.ok) (l : List Int) (hl : l.length ≤ 1000000) : Pure Try.prog 15 [r.av, listI l] (.int .i64 (confE r l)) := by
  refine pure_of (acalls_of Try.func15 rfl Try.call15 (by kernel_rfl) (by show _ ≤ (31 : Nat); simp) ?_)
  have q1 := hr.m2; have q2 := hr.m6; have q4 := hr.c6
  simp only [Rul.av]
  by_cases hnil : l = []
  · subst hnil
    have e7 : confE r [] = 7 := by unfold confE; rw [if_pos (by simp; omega)]
    have hm03 : ¬ (0 : Int) = (r.m : Int) := by omega
    have hm0 : ¬ (r.m : Int) = 0 := by omega
    have hm0' : ¬ r.m = 0 := by omega
    have hm0'' : ¬ 0 = r.m := by omega
    simp [listI, e7]
    intro b2 hb2
    simp [hm0, hm0', hm0'', hm03]
    exact finA_drop (by rw [e7])
  · rw [listI_ne hnil]
    simp [intsA]
    intro b2 hb2
    simp
    by_cases hlen : l.length = r.m
    · have hlenI : (l.length : Int) = r.m := by omega
      simp [hlen, hlenI]
      refine awp_loop_g (γ := Nat) (fun k t h => (k ≤ r.m) ∧ (∀ i (hi : i < l.length), i < k → badC r.c l[i] = false) ∧ t 1 = .sl r.m (l.map (.int .i64)) ∧ t 2 = .ptr b2 0 ∧ t 5 = .int .i64 k ∧ h = AHeap.empty.upd b2 (.cells [.int .i64 r.m, .int .i64 r.c, rowsA r.next])) (fun k => r.m - k) (0) (turnA_self (by simp)) ?_
      rintro k t h ⟨hk, hgood, h1, h2, h5, rfl⟩
      by_cases hlt : k < r.m
      · have hwk : IntKind.i64.wrap ((k : Int) + 1) = (k : Int) + 1 := wrap_i64 (by omega) (by omega)
        have hkl : k < l.length := by omega
        obtain ⟨x, hx⟩ : ∃ x, x = l[k] := ⟨_, rfl⟩
        have hx' : l[k]'hkl = x := hx.symm
        simp [h1, h2, h5, hlt]
        refine awp_draw_text (by kernel_rfl) [] [] (by kernel_rfl) (by kernel_rfl) (by simp) ?_
        by_cases hbad : badC r.c x = true
        · have e1 : confE r l = 1 := by
            unfold confE
            rw [if_neg (by omega), if_pos (List.any_eq_true.2 ⟨x, by rw [hx]; exact List.getElem_mem hkl, hbad⟩)]
          have hxb := hbad
          simp only [badC, Bool.or_eq_true, decide_eq_true_eq] at hxb
          rcases hxb with n1 | n1
          · simp [h1, h2, h5, hlt, hkl, hx', n1]
            exact finA_drop (by rw [e1])
          · have n0 : ¬ x < 0 := by omega
            simp [h1, h2, h5, hlt, hkl, hx', n0, n1]
            exact finA_drop (by rw [e1])
        · have hxb := hbad
          simp only [badC, Bool.or_eq_true, decide_eq_true_eq, not_or] at hxb
          obtain ⟨n0, n1⟩ := hxb
          simp [h1, h2, h5, hlt, hkl, hx', n0, n1]
          refine turnA_self ⟨k + 1, by omega, by omega, fun i hi hik => ?_, by simp [h1, h2, h5, hwk]⟩
          by_cases e : i = k
          · subst e; rw [hx']; simpa using hbad
          · exact hgood i hi (by omega)
      · obtain rfl : k = r.m := by omega
        have e0 : confE r l = 0 := by
          unfold confE
          rw [if_neg (by omega)]
          have : l.any (badC r.c) = false := by
            rw [List.any_eq_false]
            intro x hx
            obtain ⟨i, hi, rfl⟩ := List.mem_iff_getElem.1 hx
            simp [hgood i hi (by omega)]
          rw [this]; rfl
        simp [h1, h2, h5]
        exact finA_drop (by rw [e0])
    · have hlenI : ¬ (l.length : Int) = r.m := by omega
      have e7 : confE r l = 7 := by unfold confE; rw [if_pos hlen]
      simp [hlen, hlenI]
      exact finA_drop (by rw [e7])

theorem r_Size (m c : Nat) (q1 : 2 ≤ m) (q2 : m ≤ 6) (q3 : 2 ≤ c) (q4 : c ≤ 6) (q5 : pw c m ≤ 20000) : Pure Try.prog 27 [.int .i64 m, .int .i64 c] (.int .i64 (pw c m : Nat)) := by
  refine pure_of (acalls_of Try.func27 rfl Try.call27 (by kernel_rfl) (by show _ ≤ (32 : Nat); simp) ?_)
  have e1 : ¬ (m : Int) < 2 := by omega
  have e2 : ¬ 6 < (m : Int) := by omega
  have e3 : ¬ (c : Int) < 2 := by omega
  have e4 : ¬ 6 < (c : Int) := by omega
  simp [e1, e2, e3, e4]
  refine awp_loop_g (γ := Nat) (fun k t h => (k ≤ m) ∧ t 0 = .int .i64 m ∧ t 1 = .int .i64 c ∧ t 5 = .int .i64 (pw c k : Nat) ∧ t 6 = .int .i64 k) (fun k => m - k) (0) (turnA_self (by simp [pw_zero])) ?_
  rintro k t h ⟨hk, h0, h1, h5, h6⟩
  by_cases hlt : k < m
  · have hp := pow_le6 q4 (show k + 1 ≤ 6 by omega)
    have hwk : IntKind.i64.wrap ((k : Int) + 1) = (k : Int) + 1 := wrap_i64 (by omega) (by omega)
    have hwp : IntKind.i64.wrap ((pw c k : Int) * (c : Int)) = (pw c (k + 1) : Nat) := by
      rw [pw_succ] at hp ⊢
      rw [← Int.natCast_mul]
      exact wrap_i64 (by omega) (by omega)
    simp [h0, h1, h5, h6, hlt]
    exact turnA_self ⟨k + 1, by omega, by omega, by simp [h0, h1, h5, h6, hwk, hwp]⟩
  · obtain rfl : k = m := by omega
    have g20 : ¬ 20000 < (pw c k : Int) := by omega
    simp [h0, h1, h5, h6, g20]
    exact finA_drop rfl

theorem l_give (r : Rul) : Pure Try.prog 12 [r.av] r.av := by
  refine pure_of (acalls_of Try.func12 rfl Try.call12 (by kernel_rfl) (by show _ ≤ (10 : Nat); simp) ?_)
  simp [Rul.av]
  intro b1 hb1
  simp
  intro b2 hb2
  simp at hb2
  simp [hb2]
  exact finA_drop rfl

/-- A list cut: nil, or a block of one's own. -/
theorem l_raw (l : List Int) (most : Nat) (hl : l.length ≤ 20000000000000) (hm : most ≤ 1000) : ACalls Try.prog 13 [intsA l, .int .i64 most] AHeap.empty fun r h => ∃ o, r = ownV o (l.take most).length 1 ∧ h = AHeap.empty.updO o ((l.take most).map (.int .i64)) ∧ (o = none ↔ l.take most = []) := by
  refine acalls_of Try.func13 rfl Try.call13 (by kernel_rfl) (by show _ ≤ (14 : Nat); simp) ?_
  obtain ⟨k, hk⟩ : ∃ k, k = min l.length most := ⟨_, rfl⟩
  have hmin : (if most < l.length then (most : Int) else (l.length : Int)) = (k : Int) := by split <;> omega
  have hlen : (l.take most).length = k := by simp [hk]; omega
  have htk : l.take k = l.take most := by
    rw [hk]
    by_cases h : l.length ≤ most
    · rw [Nat.min_eq_left h, List.take_length, List.take_of_length_le h]
    · rw [Nat.min_eq_right (by omega)]
  have hkl : k ≤ l.length := by omega
  have hkm : min most l.length = k := by omega
  have htk2 : List.take k (l.map (AV.int .i64)) = List.take most (l.map (AV.int .i64)) := by rw [← List.map_take, htk, List.map_take]
  simp [intsA, hmin, hkl]
  have h00 : k = 0 → most = 0 ∨ l = [] := fun e => by
    by_cases h : most = 0
    · exact .inl h
    · exact .inr (List.eq_nil_of_length_eq_zero (by omega))
  refine ⟨fun h0 => finA_self ⟨none, by simp, by simp, by simpa using h00 h0⟩, fun h0 => ⟨by omega, ?_⟩⟩
  intro b hb
  simp
  refine finA_self ⟨some b, by simp [hkm], by simp [htk2], ?_⟩
  constructor
  · intro e; cases e
  · rintro (e | e)
    · omega
    · subst e; simp at hkl; omega

theorem l_same (a b : List Int) (ha : a.length ≤ 1000000) (hb : b.length ≤ 1000000) : Pure Try.prog 17 [listI a, listI b] (.bool (decide (a = b))) := by
  refine pure_of (acalls_of Try.func17 rfl Try.call17 (by kernel_rfl) (by show _ ≤ (26 : Nat); simp) ?_)
  by_cases na : a = []
  · subst na
    by_cases nb : b = []
    · subst nb
      simp [listI]
      refine awp_loop_g (γ := Nat) (fun k t h => t 0 = .nilsl ∧ t 1 = .nilsl ∧ t 5 = .int .i64 0) (fun k => 0) (0) (turnA_self (by simp)) ?_
      rintro k t h ⟨h0, h1, h5⟩
      simp [h0, h1, h5]
      exact finA_drop rfl
    · have hb0 : ¬ (b.length : Int) = 0 := by simpa using nb
      have hb0' : ¬ (0 : Int) = (b.length : Int) := fun e => hb0 e.symm
      have hnb : ¬ ([] : List Int) = b := fun e => nb e.symm
      simp [listI, nb, intsA, hb0, hb0', hnb]
      exact finA_drop rfl
  · by_cases nb : b = []
    · subst nb
      have ha0 : ¬ (a.length : Int) = 0 := by simpa using na
      simp [listI, na, intsA, ha0]
      exact finA_drop rfl
    · simp [listI, na, nb, intsA]
      by_cases hl : a.length = b.length
      · have hlI : (a.length : Int) = b.length := by omega
        simp [hl, hlI]
        refine awp_loop_g (γ := Nat) (fun k t h => (k ≤ b.length) ∧ (∀ i (e1 : i < a.length) (e2 : i < b.length), i < k → a[i] = b[i]) ∧ t 0 = .sl b.length (a.map (.int .i64)) ∧ t 1 = .sl b.length (b.map (.int .i64)) ∧ t 5 = .int .i64 k) (fun k => b.length - k) (0) (turnA_self (by simp)) ?_
        rintro k t h ⟨hk, hall, h0, h1, h5⟩
        by_cases hlt : k < b.length
        · have hwk : IntKind.i64.wrap ((k : Int) + 1) = (k : Int) + 1 := wrap_i64 (by omega) (by omega)
          have hka : k < a.length := by omega
          simp [h0, h1, h5, hlt]
          refine awp_draw_text (by kernel_rfl) [] [] (by kernel_rfl) (by kernel_rfl) (by simp) ?_
          by_cases hv : a[k] = b[k]
          · simp [h0, h1, h5, hlt, hka, hl, hv]
            refine turnA_self ⟨k + 1, by omega, by omega, fun i e1 e2 hik => ?_, by simp [h0, h1, h5, hwk]⟩
            by_cases e : i = k
            · subst e; exact hv
            · exact hall i (by omega) (by omega) (by omega)
          · have hne : ¬ a = b := fun e => hv (by subst e; rfl)
            simp [h0, h1, h5, hlt, hka, hl, hv]
            exact finA_drop (by simp [hne])
        · obtain rfl : k = b.length := by omega
          have he : a = b := List.ext_getElem hl fun i e1 e2 => hall i (by omega) (by omega) (by omega)
          simp [h0, h1, h5]
          exact finA_drop (by simp [he])
      · have hlI : ¬ (a.length : Int) = b.length := by omega
        have hne : ¬ a = b := fun e => hl (by rw [e])
        simp [hl, hlI, hne]
        exact finA_drop rfl

/-- A number without its sign, and its rest. -/
def uM (x : Int) (n : Nat) : Nat := (IntKind.u64.wrap x % (n : Int)).toNat
theorem uM_lt {x : Int} {n : Nat} (h : 0 < n) : uM x n < n := by
  have h1 := Int.emod_lt_of_pos (IntKind.u64.wrap x) (show (0 : Int) < n by omega)
  have h2 := Int.emod_nonneg (IntKind.u64.wrap x) (show (n : Int) ≠ 0 by omega)
  unfold uM; omega
theorem uM_mod {x : Int} {n : Nat} (h : 0 < n) : (IntKind.u64.wrap x).tmod (n : Int) = (uM x n : Int) := by
  have h0 := u64_nonneg x
  rw [Int.tmod_eq_emod_of_nonneg h0.1]
  have h2 := Int.emod_nonneg (IntKind.u64.wrap x) (show (n : Int) ≠ 0 by omega)
  unfold uM; omega
def confF (r : Rul) (l : List Int) : List Nat := (List.range r.m).map fun i => uM (if i < l.length then l.getD i 0 else (i : Int)) r.c
@[simp] theorem confF_len (r : Rul) (l : List Int) : (confF r l).length = r.m := by simp [confF]
theorem confF_cfg {r : Rul} (hr : r.ok) (l : List Int) : Cfg r (confF r l) := ⟨by simp, fun x hx => by
  obtain ⟨i, _, rfl⟩ := List.mem_map.1 hx
  exact uM_lt (by have := hr.c2; omega)⟩
theorem confF_get (r : Rul) (l : List Int) (i : Nat) (h : i < (confF r l).length) : (confF r l)[i] = uM (if i < l.length then l.getD i 0 else (i : Int)) r.c := by simp [confF]
theorem l_config (r : Rul) (hr : r.ok) (l : List Int) (hl : l.length ≤ 20000000000000) : Pure Try.prog 18 [r.av, intsA l] (natsA (confF r l)) := by
  refine pure_of (acalls_of Try.func18 rfl Try.call18 (by kernel_rfl) (by show _ ≤ (34 : Nat); simp) ?_)
  have q1 := hr.m2; have q2 := hr.m6; have q3 := hr.c2; have q4 := hr.c6
  have hcl := confF_len r l
  have hne : ¬ confF r l = [] := fun e => by rw [e] at hcl; simp at hcl; omega
  simp only [Rul.av]
  simp [intsA]
  intro b2 hb2
  simp
  refine awp_loop_g (γ := At) (fun q t h => (q.i ≤ r.m) ∧ ((q.o = none ↔ (confF r l).take q.i = []) ∧ ¬ q.o = some b2) ∧ t 1 = .sl l.length (l.map (.int .i64)) ∧ t 2 = .ptr b2 0 ∧ t 5 = ownV q.o q.i 1 ∧ t 6 = .int .i64 q.i ∧ h = (AHeap.empty.upd b2 (.cells [.int .i64 r.m, .int .i64 r.c, rowsA r.next])).updO q.o (((confF r l).take q.i).map fun x : Nat => AV.int .i64 (x : Int))) (fun q => r.m - q.i) (⟨0, none⟩) (turnA_self (by simp)) ?_
  rintro q t h ⟨hi, ho, h1, h2, h5, h6, rfl⟩
  obtain ⟨i, o⟩ := q
  simp only at h1 h2 h5 h6 hi ho
  obtain ⟨ho1, ho2⟩ := ho
  by_cases hlt : i < r.m
  · have hwi : IntKind.i64.wrap ((i : Int) + 1) = (i : Int) + 1 := wrap_i64 (by omega) (by omega)
    have hil : i < (confF r l).length := by omega
    have hts : (confF r l).take (i + 1) = (confF r l).take i ++ [(confF r l)[i]] := List.take_succ_eq_append_getElem hil
    rw [confF_get] at hts
    have hcu : IntKind.u64.wrap (r.c : Int) = (r.c : Int) := wrap_u64 (by omega) (by omega)
    have hc0 : ¬ r.c = 0 := by omega
    have fin : ∀ x : Int, x = (if i < l.length then l.getD i 0 else (i : Int)) → (confF r l).take (i + 1) = (confF r l).take i ++ [uM x r.c] ∧ IntKind.i64.wrap ((IntKind.u64.wrap x).tmod (r.c : Int)) = (uM x r.c : Int) := by
      intro x hx
      have hu := uM_lt (x := x) (n := r.c) (by omega)
      rw [hx]
      refine ⟨hts, ?_⟩
      rw [← hx, uM_mod (by omega)]
      exact wrap_i64 (by omega) (by omega)
    by_cases hin : i < l.length
    · obtain ⟨x, hx⟩ : ∃ x, x = l[i] := ⟨_, rfl⟩
      have hx' : l[i]'hin = x := hx.symm
      obtain ⟨f1, f2⟩ := fin x (by rw [if_pos hin, hx]; simp [hin])
      obtain ⟨y, hy⟩ : ∃ y, y = uM x r.c := ⟨_, rfl⟩
      rw [← hy] at f1 f2
      simp [h1, h2, h5, h6, hlt, hin, hx', ho2, hcu, hc0, f2]
      intro b1 hb1
      simp [ho2] at hb1
      simp [h1, h2, h5, h6, hb1]
      refine appendA_updO (by omega) (by omega) (fun e => by simpa using ho1.1 e) (by simp; omega) (by simp) (by simp [ho2, hb1]) fun b' hb' => ?_
      simp at hb'
      simp [h1, h2, h5, h6, hb1, hb']
      refine turnA_to ((AHeap.empty.upd b2 (.cells [.int .i64 r.m, .int .i64 r.c, rowsA r.next])).updO (some b') (((confF r l).take (i + 1)).map fun x : Nat => AV.int .i64 (x : Int))) ?_ ⟨⟨i + 1, some b'⟩, by simp only; omega, by simp only; omega, by simp [f1, hb', hne], by simp [h1, h2, h5, h6, hwi, hb']⟩
      rw [f1]
      simp
      exact Drop.both (Drop.new (Drop.refl _) (by simp [hb1]))
    · obtain ⟨f1, f2⟩ := fin (i : Int) (by rw [if_neg hin])
      obtain ⟨y, hy⟩ : ∃ y, y = uM (i : Int) r.c := ⟨_, rfl⟩
      rw [← hy] at f1 f2
      simp [h1, h2, h5, h6, hlt, hin, ho2, hcu, hc0, f2]
      intro b1 hb1
      simp [ho2] at hb1
      simp [h1, h2, h5, h6, hb1]
      refine appendA_updO (by omega) (by omega) (fun e => by simpa using ho1.1 e) (by simp; omega) (by simp) (by simp [ho2, hb1]) fun b' hb' => ?_
      simp at hb'
      simp [h1, h2, h5, h6, hb1, hb']
      refine turnA_to ((AHeap.empty.upd b2 (.cells [.int .i64 r.m, .int .i64 r.c, rowsA r.next])).updO (some b') (((confF r l).take (i + 1)).map fun x : Nat => AV.int .i64 (x : Int))) ?_ ⟨⟨i + 1, some b'⟩, by simp only; omega, by simp only; omega, by simp [f1, hb', hne], by simp [h1, h2, h5, h6, hwi, hb']⟩
      rw [f1]
      simp
      exact Drop.both (Drop.new (Drop.refl _) (by simp [hb1]))
  · obtain rfl : i = r.m := by omega
    have hta : (confF r l).take r.m = confF r l := List.take_of_length_le (by omega)
    rw [hta] at ho1
    simp [h1, h2, h5, h6, hta, ho2]
    exact finA_list hcl.symm ho1 (by rw [listA, if_neg hne])
end Go.Proofs
