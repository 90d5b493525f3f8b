/-
  Texts: RgE RgF RgG.
-/
import Derived.Test.YtobdaaoefbgilaaG1
set_option linter.unusedSimpArgs false
set_option linter.unusedVariables false
set_option linter.unusedSectionVars false
section
/-
  Ring: walks of the reference: taken, Ready, Number, Of, Step, Config, Size.
-/
namespace Go.Proofs
open Go Go.AH
set_option maxRecDepth 10000
set_option maxHeartbeats 4000000

theorem r_taken (r : Rul) (hr : r.ok) (l : List Nat) (hl : Cfg r l) (i : Nat) (hi : i < r.m) : Pure Try.prog 57 [r.av, natsA l, .int .i64 i] (.int .i64 (takesF r l i)) := by
  refine pure_of (acalls_of Try.func57 rfl Try.call57 (by kernel_rfl) (by show _ ≤ (51 : Nat); simp) ?_)
  have q1 := hr.m2; have q2 := hr.m6; have q3 := hr.c2; have q4 := hr.c6
  have hll := hl.len
  have h0 : 0 < r.m := by omega
  obtain ⟨a, ha⟩ : ∃ a, a = (i + r.m - 1) % r.m := ⟨_, rfl⟩
  obtain ⟨b, hb⟩ : ∃ b, b = (i + 1) % r.m := ⟨_, rfl⟩
  have ham : a < r.m := by rw [ha]; exact mod_lt' h0
  have hbm : b < r.m := by rw [hb]; exact mod_lt' h0
  have get : ∀ j (h : j < r.m), l[j]'(by omega) = colF l j := fun j h => by simp [colF, hll, h]
  have ga := get a ham
  have gi := get i hi
  have gb := get b hbm
  have la := colF_lt hl hr ham
  have li := colF_lt hl hr hi
  have lb := colF_lt hl hr hbm
  have hat : atF r l i = (colF l a * r.c + colF l i) * r.c + colF l b := by unfold atF; rw [← ha, ← hb]
  obtain ⟨t1, t2, et⟩ := takes_get hr hl hi
  rw [et]
  have hatl := atF_lt hr hl hi
  have hccc := ccc_le q4
  have e3 := idx3_lt la li lb
  rw [← hat] at e3
  generalize colF l a = u at *
  generalize colF l i = v at *
  generalize colF l b = w at *
  generalize hA : atF r l i = A at *
  have v1 : IntKind.i64.wrap ((i : Int) + (r.m : Int)) = (i : Int) + (r.m : Int) := wrap_i64 (by omega) (by omega)
  obtain ⟨N1, hN1⟩ : ∃ N1, N1 = i + r.m - 1 := ⟨_, rfl⟩
  obtain ⟨N2, hN2⟩ : ∃ N2, N2 = i + 1 := ⟨_, rfl⟩
  rw [← hN1] at ha
  rw [← hN2] at hb
  have v2 : IntKind.i64.wrap ((i : Int) + (r.m : Int) - 1) = (N1 : Int) := by rw [wrap_i64 (by omega) (by omega)]; omega
  have v3 : (N1 : Int).tmod (r.m : Int) = (a : Int) := by rw [Int.tmod_eq_emod_of_nonneg (by omega), ha]; rfl
  have v4 : IntKind.i64.wrap ((i : Int) + 1) = (N2 : Int) := by rw [wrap_i64 (by omega) (by omega)]; omega
  have v5 : (N2 : Int).tmod (r.m : Int) = (b : Int) := by rw [Int.tmod_eq_emod_of_nonneg (by omega), hb]; rfl
  have b1 : u * r.c ≤ 6 * 6 := Nat.mul_le_mul (by omega) q4
  obtain ⟨p, hp⟩ : ∃ p, p = u * r.c := ⟨_, rfl⟩
  have y1 : IntKind.i64.wrap ((u : Int) * (r.c : Int)) = (p : Int) := by rw [← Int.natCast_mul, hp]; exact wrap_i64 (by omega) (by omega)
  rw [← hp] at b1 hat
  obtain ⟨p2, hp2⟩ : ∃ p2, p2 = p + v := ⟨_, rfl⟩
  have y2 : IntKind.i64.wrap ((p : Int) + (v : Int)) = (p2 : Int) := by rw [← Int.natCast_add, ← hp2]; exact wrap_i64 (by omega) (by omega)
  rw [← hp2] at hat
  have b2 : p2 * r.c ≤ 42 * 6 := Nat.mul_le_mul (by omega) q4
  obtain ⟨p3, hp3⟩ : ∃ p3, p3 = p2 * r.c := ⟨_, rfl⟩
  have y3 : IntKind.i64.wrap ((p2 : Int) * (r.c : Int)) = (p3 : Int) := by rw [← Int.natCast_mul, ← hp3]; exact wrap_i64 (by omega) (by omega)
  rw [← hp3] at b2 hat
  have y4 : IntKind.i64.wrap ((p3 : Int) + (w : Int)) = (A : Int) := by rw [← Int.natCast_add, ← hat]; exact wrap_i64 (by omega) (by omega)
  have hm0 : ¬ r.m = 0 := by omega
  have hin : i < r.next.length := t1
  have hrl : r.next[i].length = r.c * r.c * r.c := hr.rl _ (List.getElem_mem t1)
  have e3' : (A : Int) < (r.c : Int) * r.c * r.c := by rw [← Int.natCast_mul, ← Int.natCast_mul]; omega
  simp [Rul.av, natsA]
  intro b3 hb3
  simp
  refine awp_draw_text (by kernel_rfl) [] [] (by kernel_rfl) (by kernel_rfl) (by simp) ?_
  simp [hm0, v1, v2, v3, v4, v5, ham, hbm, hi, hll, ga, gi, gb]
  refine awp_draw_text (by kernel_rfl) [] [] (by kernel_rfl) (by kernel_rfl) (by simp) ?_
  simp [y1, y2, y3, y4, rowsA, intsA, hin, hrl, e3, e3']
  exact finA_drop rfl

theorem r_Ready (r : Rul) (hr : r.ok) (l : List Nat) (hl : Cfg r l) : Pure Try.prog 23 [r.av, natsA l] (listA (readyF r l)) := by
  refine pure_of (acalls_of Try.func23 rfl Try.call23 (by kernel_rfl) (by show _ ≤ (23 : Nat); simp) ?_)
  have q2 := hr.m6
  have ct := r_taken r hr l hl
  simp only [Rul.av] at ct ⊢
  simp
  intro b2 hb2
  simp
  refine awp_loop_g (γ := At) (fun q t h => (q.i ≤ r.m) ∧ ((q.o = none ↔ readyK r l q.i = []) ∧ ¬ q.o = some b2) ∧ t 1 = natsA l ∧ t 2 = .ptr b2 0 ∧ t 5 = ownV q.o (readyK r l q.i).length 1 ∧ t 6 = .int .i64 q.i ∧ h = (AHeap.empty.upd b2 (.cells [.int .i64 r.m, .int .i64 r.c, rowsA r.next])).updO q.o ((readyK r l q.i).map fun x : Nat => AV.int .i64 (x : Int))) (fun q => r.m - q.i) (⟨0, none⟩) (turnA_self (by simp [readyK])) ?_
  rintro q t h ⟨hi, ho, h1, h2, h5, h6, rfl⟩
  obtain ⟨i, o⟩ := q
  simp only at h1 h2 h5 h6 hi ho
  obtain ⟨ho1, ho2⟩ := ho
  by_cases hlt : i < r.m
  · have hwi : IntKind.i64.wrap ((i : Int) + 1) = (i : Int) + 1 := wrap_i64 (by omega) (by omega)
    have hs := readyK_succ r l i
    have hkl := readyK_len r l i
    simp [h1, h2, h5, h6, hlt, ho2]
    refine (ct i hlt).use ?_
    by_cases hp : 0 ≤ takesF r l i
    · rw [if_pos hp] at hs
      simp [h1, h2, h5, h6, hp]
      intro b1 hb1
      simp [ho2] at hb1
      simp [h1, h2, h5, h6, hb1]
      refine appendA_updO (by omega) (by omega) (by simpa using ho1.1) (by simp) (by simp) (by simp [ho2, hb1]) fun b' hb' => ?_
      simp at hb'
      simp [h1, h2, h5, h6, hb1, hb']
      refine turnA_to ((AHeap.empty.upd b2 (.cells [.int .i64 r.m, .int .i64 r.c, rowsA r.next])).updO (some b') ((readyK r l (i + 1)).map fun x : Nat => AV.int .i64 (x : Int))) ?_ ⟨⟨i + 1, some b'⟩, by simp only; omega, by simp only; omega, by simp [hs, hb'], by simp [h1, h2, h5, h6, hwi, hs, hb']⟩
      rw [hs]
      simp
      exact Drop.both (Drop.new (Drop.refl _) (by simp [hb1]))
    · rw [if_neg hp] at hs
      simp [h1, h2, h5, h6, hp]
      exact turnA_self ⟨⟨i + 1, o⟩, by simp only; omega, by simp only; omega, by simp [hs, ho1, ho2], by simp [h1, h2, h5, h6, hwi, hs]⟩
  · obtain rfl : i = r.m := by omega
    simp [h1, h2, h5, h6, ho2]
    have hrk : readyK r l r.m = readyF r l := rfl
    rw [hrk] at ho1 ⊢
    exact finA_list rfl ho1 rfl

theorem r_Number (r : Rul) (hr : r.ok) (l : List Nat) (hl : Cfg r l) : Pure Try.prog 24 [r.av, natsA l] (.int .i64 (numF r.c l : Nat)) := by
  refine pure_of (acalls_of Try.func24 rfl Try.call24 (by kernel_rfl) (by show _ ≤ (23 : Nat); simp) ?_)
  have q1 := hr.m2; have q2 := hr.m6; have q3 := hr.c2; have q4 := hr.c6
  have hll := hl.len
  simp [Rul.av, natsA]
  intro b2 hb2
  simp
  refine awp_loop_g (γ := Nat) (fun i t h => (i ≤ r.m) ∧ t 1 = .sl l.length (l.map fun x : Nat => AV.int .i64 (x : Int)) ∧ t 2 = .ptr b2 0 ∧ t 5 = .int .i64 (numF r.c (l.take i) : Nat) ∧ t 6 = .int .i64 i ∧ h = AHeap.empty.upd b2 (.cells [.int .i64 r.m, .int .i64 r.c, rowsA r.next])) (fun i => r.m - i) (0) (turnA_self (by simp [numF])) ?_
  rintro i t h ⟨hi, h1, h2, h5, h6, rfl⟩
  by_cases hlt : i < r.m
  · have hwi : IntKind.i64.wrap ((i : Int) + 1) = (i : Int) + 1 := wrap_i64 (by omega) (by omega)
    have hil : i < l.length := by omega
    have ht := numF_take r.c l i hil
    have hb1 := num_take_le q3 q4 (by omega) hl.lt (i + 1)
    have hb0 := num_take_le q3 q4 (by omega) hl.lt i
    obtain ⟨x, hx⟩ : ∃ x, x = l[i] := ⟨_, rfl⟩
    rw [← hx] at ht
    obtain ⟨n, hn⟩ : ∃ n, n = numF r.c (l.take i) := ⟨_, rfl⟩
    obtain ⟨n', hn'⟩ : ∃ n', n' = numF r.c (l.take (i + 1)) := ⟨_, rfl⟩
    rw [← hn, ← hn'] at ht
    rw [← hn'] at hb1
    rw [← hn] at hb0
    have hx' : l[i]'hil = x := hx.symm
    have v1 : IntKind.i64.wrap ((n : Int) * (r.c : Int)) = (n : Int) * (r.c : Int) := by rw [← Int.natCast_mul]; exact wrap_i64 (by omega) (by omega)
    have v2 : IntKind.i64.wrap ((n : Int) * (r.c : Int) + (x : Int)) = (n' : Int) := by rw [← Int.natCast_mul, ht]; rw [wrap_i64 (by omega) (by omega)]; omega
    simp [h1, h2, h5, h6, hlt, hll]
    refine awp_draw_text (by kernel_rfl) [] [] (by kernel_rfl) (by kernel_rfl) (by simp) ?_
    simp [h1, h2, h5, h6, hlt, hll, ← hn, hx', v1, v2]
    refine turnA_self ⟨i + 1, by omega, by omega, by simp [h1, h2, h5, h6, hwi, ← hn', hll]⟩
  · obtain rfl : i = r.m := by omega
    simp [h1, h2, h5, h6, hll]
    exact finA_drop (by rw [← hll, List.take_length])

/-- The list as far as it is filled, from behind. -/
def fillN (c m n i : Nat) : List Nat := (List.range m).map fun j => if i ≤ j then (ofF c m n).getD j 0 else 0
@[simp] theorem fillN_len (c m n i : Nat) : (fillN c m n i).length = m := by simp [fillN]
theorem fillN_end (c m n : Nat) : fillN c m n m = List.replicate m 0 := by
  refine List.ext_getElem (by simp) fun j h1 h2 => ?_
  have : ¬ m ≤ j := by simp at h1; omega
  simp [fillN, this]
theorem fillN_zero (c m n : Nat) : fillN c m n 0 = ofF c m n := by
  refine List.ext_getElem (by simp) fun j h1 h2 => ?_
  simp only [fillN, List.getElem_map, List.getElem_range, Nat.zero_le, if_true]
  rw [List.getD_eq_getElem?_getD, List.getElem?_eq_getElem h2]; rfl
theorem fillN_step {c m n i : Nat} (hi : i < m) : (fillN c m n (i + 1)).set i ((ofF c m n).getD i 0) = fillN c m n i := by
  refine List.ext_getElem (by simp) fun j h1 h2 => ?_
  rw [List.getElem_set]
  simp only [fillN, List.getElem_map, List.getElem_range]
  split
  · next e => subst e; simp
  · next e =>
    by_cases h : i ≤ j
    · have : i + 1 ≤ j := by omega
      simp [h, this]
    · have : ¬ i + 1 ≤ j := by omega
      simp [h, this]
theorem r_Of (r : Rul) (hr : r.ok) (n : Nat) (hn : n < r.size) : Pure Try.prog 28 [r.av, .int .i64 n] (natsA (ofF r.c r.m n)) := by
  refine pure_of (acalls_of Try.func28 rfl Try.call28 (by kernel_rfl) (by show _ ≤ (29 : Nat); simp) ?_)
  have q1 := hr.m2; have q2 := hr.m6; have q3 := hr.c2; have q4 := hr.c6; have q5 := hr.sz
  have hm1 : IntKind.i64.wrap ((r.m : Int) - 1) = ((r.m : Nat) : Int) - 1 := wrap_i64 (by omega) (by omega)
  have hm30 : (r.m : Int) < 1073741824 := by omega
  have hm30' : r.m < 1073741824 := by omega
  simp [Rul.av]
  intro b2 hb2
  simp [hm30, hm30']
  intro b5 hb5
  simp at hb5
  have hst : List.replicate r.m (AV.int .i64 0) = (fillN r.c r.m n r.m).map fun x : Nat => AV.int .i64 (x : Int) := by rw [fillN_end]; simp
  simp [hb5, hm1]
  refine awp_loop_g (γ := Nat) (fun i t h => (i ≤ r.m) ∧ t 1 = .int .i64 (upF r.c n (r.m - i) : Nat) ∧ t 2 = .ptr b2 0 ∧ t 5 = .osl b5 0 r.m 1 ∧ t 6 = .int .i64 ((i : Int) - 1) ∧ h = (AHeap.empty.upd b2 (.cells [.int .i64 r.m, .int .i64 r.c, rowsA r.next])).upd b5 (.cells ((fillN r.c r.m n i).map fun x : Nat => AV.int .i64 (x : Int)))) (fun i => i) (r.m) (turnA_self (by simp [hb5, hst, upF, pw_zero])) ?_
  rintro i t h ⟨hi, h1, h2, h5, h6, rfl⟩
  by_cases hlt : 0 < i
  · have hi1 : (1 : Int) ≤ (i : Int) := by omega
    have hi1' : 1 ≤ i := by omega
    have hq : upF r.c n (r.m - i) ≤ 20000 := Nat.le_trans (Nat.div_le_self _ _) (by unfold Rul.size at hn q5; omega)
    obtain ⟨q, hqe⟩ : ∃ q, q = upF r.c n (r.m - i) := ⟨_, rfl⟩
    rw [← hqe] at hq
    have hdig : (ofF r.c r.m n).getD (i - 1) 0 = q % r.c := by
      rw [ofF_get _ _ _ _ (by omega), hqe]; unfold upF; congr 3; omega
    have hdiv : upF r.c n (r.m - (i - 1)) = q / r.c := by
      unfold upF at hqe ⊢
      have e : r.m - (i - 1) = (r.m - i) + 1 := by omega
      rw [e, pw_succ, ← Nat.div_div_eq_div_mul, hqe]
    have hmod : q % r.c < r.c := Nat.mod_lt _ (by omega)
    have hc0 : ¬ r.c = 0 := by omega
    have v1 : (q : Int).tmod (r.c : Int) = (q % r.c : Nat) := by rw [Int.tmod_eq_emod_of_nonneg (by omega)]; rfl
    have v2 : (q : Int).tdiv (r.c : Int) = (q / r.c : Nat) := by rw [Int.tdiv_eq_ediv_of_nonneg (by omega)]; rfl
    have hdl : q / r.c ≤ q := Nat.div_le_self _ _
    have hset := fillN_step (c := r.c) (n := n) (i := i - 1) (m := r.m) (by omega)
    rw [hdig, show i - 1 + 1 = i from by omega] at hset
    generalize hd : q % r.c = d at *
    have hsp : splice ((fillN r.c r.m n i).map fun x : Nat => AV.int .i64 (x : Int)) (i - 1) [AV.int .i64 (d : Int)] = (fillN r.c r.m n (i - 1)).map fun x : Nat => AV.int .i64 (x : Int) := by
      rw [splice_one (by simp; omega), ← hset, List.map_set]
    generalize hqq : q / r.c = qd at *
    have v4 : IntKind.i64.wrap (qd : Int) = qd := wrap_i64 (by omega) (by omega)
    have v5 : IntKind.i64.wrap ((i : Int) - 1 - 1) = ((i - 1 : Nat) : Int) - 1 := by rw [wrap_i64 (by omega) (by omega)]; omega
    have hin : (i : Int) - 1 < r.m := by omega
    have hnat : ((i : Int) - 1).toNat = i - 1 := by omega
    have hil : i - 1 + 1 ≤ r.m := by omega
    simp [h1, h2, h5, h6, hi1, hi1', hin, ← hqe, hb5, hc0, v1, v2, v4, hnat, hil]
    refine ⟨by omega, turnA_self ⟨i - 1, by omega, by omega, by simp [h1, h2, h5, h6, v5, hdiv, hsp]⟩⟩
  · obtain rfl : i = 0 := by omega
    simp [h1, h2, h5, h6, hb5, fillN_zero]
    have hne : ¬ ofF r.c r.m n = [] := fun e => by have := ofF_len r.c r.m n; rw [e] at this; simp at this; omega
    exact finA_list (o := some b5) (l := ofF r.c r.m n) (by simp) (by simp [hne]) (by rw [listA, if_neg hne])

theorem r_Step (r : Rul) (hr : r.ok) (l : List Nat) (hl : Cfg r l) (ms : List Nat) (hms : ∀ i ∈ ms, i < r.m ∧ 0 ≤ takesF r l i) (hml : ms.length ≤ 1000000) : Pure Try.prog 25 [r.av, natsA l, natsA ms] (natsA (stepF r l ms)) := by
  refine pure_of (acalls_of Try.func25 rfl Try.call25 (by kernel_rfl) (by show _ ≤ (32 : Nat); simp) ?_)
  have q1 := hr.m2; have q2 := hr.m6; have q4 := hr.c6
  have hll := hl.len
  have hsl : ∀ ms, (stepF r l ms).length = r.m := fun ms => by rw [stepF_len, hll]
  have ct := r_taken r hr l hl
  have hne : ¬ r.m = 0 := by omega
  have hm30 : r.m < 1073741824 := by omega
  have hne' : ¬ l = [] := fun e => by rw [e] at hll; exact hne hll.symm
  simp only [Rul.av, natsA] at ct ⊢
  simp
  intro b3 hb3
  simp [hll, hne, hne', hm30]
  intro b7 hb7
  simp at hb7
  simp [hb7]
  refine awp_loop_g (γ := Nat) (fun k t h => (k ≤ ms.length) ∧ t 1 = .sl r.m (l.map fun x : Nat => AV.int .i64 (x : Int)) ∧ t 2 = .sl ms.length (ms.map fun x : Nat => AV.int .i64 (x : Int)) ∧ t 3 = .ptr b3 0 ∧ t 7 = .osl b7 0 r.m 1 ∧ t 8 = .int .i64 k ∧ h = (AHeap.empty.upd b3 (.cells [.int .i64 r.m, .int .i64 r.c, rowsA r.next])).upd b7 (.cells ((stepF r l (ms.take k)).map fun x : Nat => AV.int .i64 (x : Int)))) (fun k => ms.length - k) (0) (turnA_self (by simp [stepF])) ?_
  rintro k t h ⟨hk, h1, h2, h3, h7, h8, rfl⟩
  by_cases hlt : k < ms.length
  · have hwk : IntKind.i64.wrap ((k : Int) + 1) = (k : Int) + 1 := wrap_i64 (by omega) (by omega)
    have hst := stepF_take r l ms k hlt
    obtain ⟨hmi, hmt⟩ := hms ms[k] (List.getElem_mem hlt)
    obtain ⟨i, hi⟩ : ∃ i, i = ms[k] := ⟨_, rfl⟩
    rw [← hi] at hst hmi hmt
    have hbd := takes_bd hr hl hmi
    have hlen := hsl (ms.take k)
    obtain ⟨x, hx⟩ : ∃ x : Nat, x = (takesF r l i).toNat := ⟨_, rfl⟩
    have hxi : takesF r l i = (x : Int) := by omega
    have cti := ct i hmi
    rw [hxi, hll] at cti
    rw [← hx] at hst
    have hsp : ((stepF r l (ms.take k)).map fun x : Nat => AV.int .i64 (x : Int)).set i (AV.int .i64 (x : Int)) = (stepF r l (ms.take (k + 1))).map fun x : Nat => AV.int .i64 (x : Int) := by rw [hst, List.map_set]
    have hi' : ms[k]'hlt = i := hi.symm
    have hi1 : i + 1 ≤ r.m := by omega
    simp [h1, h2, h3, h7, h8, hlt, hi', hb7]
    refine awp_draw_text (by kernel_rfl) [29] [(.fn (.func 57) [] [], [.agg [.int .i64 r.m, .int .i64 r.c, rowsA r.next], .sl r.m (l.map fun x : Nat => AV.int .i64 (x : Int)), .int .i64 i], .int .i64 (x : Int))] (by kernel_rfl) (by kernel_rfl) (by simp; exact PureV.of cti) ?_
    simp [h1, h2, h3, h7, h8, hlt, hi', hb7, hmi, hi1, hlen, gamGet_here]
    exact turnA_self ⟨k + 1, by omega, by omega, by simp [h1, h2, h3, h7, h8, hwk, hsp]⟩
  · obtain rfl : k = ms.length := by omega
    simp [h1, h2, h3, h7, h8, hb7]
    have hsm := hsl ms
    have hne2 : ¬ stepF r l ms = [] := fun e => by rw [e] at hsm; exact hne hsm.symm
    exact finA_list (o := some b7) (l := stepF r l ms) hsm.symm (by simp [hne2]) (by rw [listA, if_neg hne2]; rfl)
end Go.Proofs

end

section
/-
  Ring: walks of the reference's Config, Size, Play and of the law's small functions.
-/
namespace Go.Proofs
open Go Go.AH
set_option maxRecDepth 10000
set_option maxHeartbeats 4000000

theorem nats_ints (l : List Nat) : natsA l = intsA (l.map fun x : Nat => (x : Int)) := by simp [natsA, intsA, Function.comp_def]
theorem listA_I (l : List Nat) : listA l = listI (l.map fun x : Nat => (x : Int)) := by
  unfold listA listI
  by_cases h : l = []
  · subst h; rfl
  · rw [if_neg h, if_neg (by simpa using h), nats_ints]
theorem natI_nat (l : List Nat) : natI (l.map fun x : Nat => (x : Int)) = l := by simp [natI, Function.comp_def]

theorem r_Config (r : Rul) (hr : r.ok) (l : List Int) (hl : l.length ≤ 1000000) : Pure Try.prog 15 [r.av, listI l] (.int .i64 (confE r l)) := by
  refine pure_of (acalls_of Try.func15 rfl Try.call15 (by kernel_rfl) (by show _ ≤ (31 : Nat); simp) ?_)
  have q1 := hr.m2; have q2 := hr.m6; have q4 := hr.c6
  simp only [Rul.av]
  by_cases hnil : l = []
  · subst hnil
    have e7 : confE r [] = 7 := by unfold confE; rw [if_pos (by simp; omega)]
    have hm03 : ¬ (0 : Int) = (r.m : Int) := by omega
    have hm0 : ¬ (r.m : Int) = 0 := by omega
    have hm0' : ¬ r.m = 0 := by omega
    have hm0'' : ¬ 0 = r.m := by omega
    simp [listI, e7]
    intro b2 hb2
    simp [hm0, hm0', hm0'', hm03]
    exact finA_drop (by rw [e7])
  · rw [listI_ne hnil]
    simp [intsA]
    intro b2 hb2
    simp
    by_cases hlen : l.length = r.m
    · have hlenI : (l.length : Int) = r.m := by omega
      simp [hlen, hlenI]
      refine awp_loop_g (γ := Nat) (fun k t h => (k ≤ r.m) ∧ (∀ i (hi : i < l.length), i < k → badC r.c l[i] = false) ∧ t 1 = .sl r.m (l.map (.int .i64)) ∧ t 2 = .ptr b2 0 ∧ t 5 = .int .i64 k ∧ h = AHeap.empty.upd b2 (.cells [.int .i64 r.m, .int .i64 r.c, rowsA r.next])) (fun k => r.m - k) (0) (turnA_self (by simp)) ?_
      rintro k t h ⟨hk, hgood, h1, h2, h5, rfl⟩
      by_cases hlt : k < r.m
      · have hwk : IntKind.i64.wrap ((k : Int) + 1) = (k : Int) + 1 := wrap_i64 (by omega) (by omega)
        have hkl : k < l.length := by omega
        obtain ⟨x, hx⟩ : ∃ x, x = l[k] := ⟨_, rfl⟩
        have hx' : l[k]'hkl = x := hx.symm
        simp [h1, h2, h5, hlt]
        refine awp_draw_text (by kernel_rfl) [] [] (by kernel_rfl) (by kernel_rfl) (by simp) ?_
        by_cases hbad : badC r.c x = true
        · have e1 : confE r l = 1 := by
            unfold confE
            rw [if_neg (by omega), if_pos (List.any_eq_true.2 ⟨x, by rw [hx]; exact List.getElem_mem hkl, hbad⟩)]
          have hxb := hbad
          simp only [badC, Bool.or_eq_true, decide_eq_true_eq] at hxb
          rcases hxb with n1 | n1
          · simp [h1, h2, h5, hlt, hkl, hx', n1]
            exact finA_drop (by rw [e1])
          · have n0 : ¬ x < 0 := by omega
            simp [h1, h2, h5, hlt, hkl, hx', n0, n1]
            exact finA_drop (by rw [e1])
        · have hxb := hbad
          simp only [badC, Bool.or_eq_true, decide_eq_true_eq, not_or] at hxb
          obtain ⟨n0, n1⟩ := hxb
          simp [h1, h2, h5, hlt, hkl, hx', n0, n1]
          refine turnA_self ⟨k + 1, by omega, by omega, fun i hi hik => ?_, by simp [h1, h2, h5, hwk]⟩
          by_cases e : i = k
          · subst e; rw [hx']; simpa using hbad
          · exact hgood i hi (by omega)
      · obtain rfl : k = r.m := by omega
        have e0 : confE r l = 0 := by
          unfold confE
          rw [if_neg (by omega)]
          have : l.any (badC r.c) = false := by
            rw [List.any_eq_false]
            intro x hx
            obtain ⟨i, hi, rfl⟩ := List.mem_iff_getElem.1 hx
            simp [hgood i hi (by omega)]
          rw [this]; rfl
        simp [h1, h2, h5]
        exact finA_drop (by rw [e0])
    · have hlenI : ¬ (l.length : Int) = r.m := by omega
      have e7 : confE r l = 7 := by unfold confE; rw [if_pos hlen]
      simp [hlen, hlenI]
      exact finA_drop (by rw [e7])

theorem r_Size (m c : Nat) (q1 : 2 ≤ m) (q2 : m ≤ 6) (q3 : 2 ≤ c) (q4 : c ≤ 6) (q5 : pw c m ≤ 20000) : Pure Try.prog 27 [.int .i64 m, .int .i64 c] (.int .i64 (pw c m : Nat)) := by
  refine pure_of (acalls_of Try.func27 rfl Try.call27 (by kernel_rfl) (by show _ ≤ (32 : Nat); simp) ?_)
  have e1 : ¬ (m : Int) < 2 := by omega
  have e2 : ¬ 6 < (m : Int) := by omega
  have e3 : ¬ (c : Int) < 2 := by omega
  have e4 : ¬ 6 < (c : Int) := by omega
  simp [e1, e2, e3, e4]
  refine awp_loop_g (γ := Nat) (fun k t h => (k ≤ m) ∧ t 0 = .int .i64 m ∧ t 1 = .int .i64 c ∧ t 5 = .int .i64 (pw c k : Nat) ∧ t 6 = .int .i64 k) (fun k => m - k) (0) (turnA_self (by simp [pw_zero])) ?_
  rintro k t h ⟨hk, h0, h1, h5, h6⟩
  by_cases hlt : k < m
  · have hp := pow_le6 q4 (show k + 1 ≤ 6 by omega)
    have hwk : IntKind.i64.wrap ((k : Int) + 1) = (k : Int) + 1 := wrap_i64 (by omega) (by omega)
    have hwp : IntKind.i64.wrap ((pw c k : Int) * (c : Int)) = (pw c (k + 1) : Nat) := by
      rw [pw_succ] at hp ⊢
      rw [← Int.natCast_mul]
      exact wrap_i64 (by omega) (by omega)
    simp [h0, h1, h5, h6, hlt]
    exact turnA_self ⟨k + 1, by omega, by omega, by simp [h0, h1, h5, h6, hwk, hwp]⟩
  · obtain rfl : k = m := by omega
    have g20 : ¬ 20000 < (pw c k : Int) := by omega
    simp [h0, h1, h5, h6, g20]
    exact finA_drop rfl

theorem l_give (r : Rul) : Pure Try.prog 12 [r.av] r.av := by
  refine pure_of (acalls_of Try.func12 rfl Try.call12 (by kernel_rfl) (by show _ ≤ (10 : Nat); simp) ?_)
  simp [Rul.av]
  intro b1 hb1
  simp
  intro b2 hb2
  simp at hb2
  simp [hb2]
  exact finA_drop rfl

/-- A list cut: nil, or a block of one's own. -/
theorem l_raw (l : List Int) (most : Nat) (hl : l.length ≤ 20000000000000) (hm : most ≤ 1000) : ACalls Try.prog 13 [intsA l, .int .i64 most] AHeap.empty fun r h => ∃ o, r = ownV o (l.take most).length 1 ∧ h = AHeap.empty.updO o ((l.take most).map (.int .i64)) ∧ (o = none ↔ l.take most = []) := by
  refine acalls_of Try.func13 rfl Try.call13 (by kernel_rfl) (by show _ ≤ (14 : Nat); simp) ?_
  obtain ⟨k, hk⟩ : ∃ k, k = min l.length most := ⟨_, rfl⟩
  have hmin : (if most < l.length then (most : Int) else (l.length : Int)) = (k : Int) := by split <;> omega
  have hlen : (l.take most).length = k := by simp [hk]; omega
  have htk : l.take k = l.take most := by
    rw [hk]
    by_cases h : l.length ≤ most
    · rw [Nat.min_eq_left h, List.take_length, List.take_of_length_le h]
    · rw [Nat.min_eq_right (by omega)]
  have hkl : k ≤ l.length := by omega
  have hkm : min most l.length = k := by omega
  have htk2 : List.take k (l.map (AV.int .i64)) = List.take most (l.map (AV.int .i64)) := by rw [← List.map_take, htk, List.map_take]
  simp [intsA, hmin, hkl]
  have h00 : k = 0 → most = 0 ∨ l = [] := fun e => by
    by_cases h : most = 0
    · exact .inl h
    · exact .inr (List.eq_nil_of_length_eq_zero (by omega))
  refine ⟨fun h0 => finA_self ⟨none, by simp, by simp, by simpa using h00 h0⟩, fun h0 => ⟨by omega, ?_⟩⟩
  intro b hb
  simp
  refine finA_self ⟨some b, by simp [hkm], by simp [htk2], ?_⟩
  constructor
  · intro e; cases e
  · rintro (e | e)
    · omega
    · subst e; simp at hkl; omega

theorem l_same (a b : List Int) (ha : a.length ≤ 1000000) (hb : b.length ≤ 1000000) : Pure Try.prog 17 [listI a, listI b] (.bool (decide (a = b))) := by
  refine pure_of (acalls_of Try.func17 rfl Try.call17 (by kernel_rfl) (by show _ ≤ (26 : Nat); simp) ?_)
  by_cases na : a = []
  · subst na
    by_cases nb : b = []
    · subst nb
      simp [listI]
      refine awp_loop_g (γ := Nat) (fun k t h => t 0 = .nilsl ∧ t 1 = .nilsl ∧ t 5 = .int .i64 0) (fun k => 0) (0) (turnA_self (by simp)) ?_
      rintro k t h ⟨h0, h1, h5⟩
      simp [h0, h1, h5]
      exact finA_drop rfl
    · have hb0 : ¬ (b.length : Int) = 0 := by simpa using nb
      have hb0' : ¬ (0 : Int) = (b.length : Int) := fun e => hb0 e.symm
      have hnb : ¬ ([] : List Int) = b := fun e => nb e.symm
      simp [listI, nb, intsA, hb0, hb0', hnb]
      exact finA_drop rfl
  · by_cases nb : b = []
    · subst nb
      have ha0 : ¬ (a.length : Int) = 0 := by simpa using na
      simp [listI, na, intsA, ha0]
      exact finA_drop rfl
    · simp [listI, na, nb, intsA]
      by_cases hl : a.length = b.length
      · have hlI : (a.length : Int) = b.length := by omega
        simp [hl, hlI]
        refine awp_loop_g (γ := Nat) (fun k t h => (k ≤ b.length) ∧ (∀ i (e1 : i < a.length) (e2 : i < b.length), i < k → a[i] = b[i]) ∧ t 0 = .sl b.length (a.map (.int .i64)) ∧ t 1 = .sl b.length (b.map (.int .i64)) ∧ t 5 = .int .i64 k) (fun k => b.length - k) (0) (turnA_self (by simp)) ?_
        rintro k t h ⟨hk, hall, h0, h1, h5⟩
        by_cases hlt : k < b.length
        · have hwk : IntKind.i64.wrap ((k : Int) + 1) = (k : Int) + 1 := wrap_i64 (by omega) (by omega)
          have hka : k < a.length := by omega
          simp [h0, h1, h5, hlt]
          refine awp_draw_text (by kernel_rfl) [] [] (by kernel_rfl) (by kernel_rfl) (by simp) ?_
          by_cases hv : a[k] = b[k]
          · simp [h0, h1, h5, hlt, hka, hl, hv]
            refine turnA_self ⟨k + 1, by omega, by omega, fun i e1 e2 hik => ?_, by simp [h0, h1, h5, hwk]⟩
            by_cases e : i = k
            · subst e; exact hv
            · exact hall i (by omega) (by omega) (by omega)
          · have hne : ¬ a = b := fun e => hv (by subst e; rfl)
            simp [h0, h1, h5, hlt, hka, hl, hv]
            exact finA_drop (by simp [hne])
        · obtain rfl : k = b.length := by omega
          have he : a = b := List.ext_getElem hl fun i e1 e2 => hall i (by omega) (by omega) (by omega)
          simp [h0, h1, h5]
          exact finA_drop (by simp [he])
      · have hlI : ¬ (a.length : Int) = b.length := by omega
        have hne : ¬ a = b := fun e => hl (by rw [e])
        simp [hl, hlI, hne]
        exact finA_drop rfl

/-- A number without its sign, and its rest. -/
def uM (x : Int) (n : Nat) : Nat := (IntKind.u64.wrap x % (n : Int)).toNat
theorem uM_lt {x : Int} {n : Nat} (h : 0 < n) : uM x n < n := by
  have h1 := Int.emod_lt_of_pos (IntKind.u64.wrap x) (show (0 : Int) < n by omega)
  have h2 := Int.emod_nonneg (IntKind.u64.wrap x) (show (n : Int) ≠ 0 by omega)
  unfold uM; omega
theorem uM_mod {x : Int} {n : Nat} (h : 0 < n) : (IntKind.u64.wrap x).tmod (n : Int) = (uM x n : Int) := by
  have h0 := u64_nonneg x
  rw [Int.tmod_eq_emod_of_nonneg h0.1]
  have h2 := Int.emod_nonneg (IntKind.u64.wrap x) (show (n : Int) ≠ 0 by omega)
  unfold uM; omega
def confF (r : Rul) (l : List Int) : List Nat := (List.range r.m).map fun i => uM (if i < l.length then l.getD i 0 else (i : Int)) r.c
@[simp] theorem confF_len (r : Rul) (l : List Int) : (confF r l).length = r.m := by simp [confF]
theorem confF_cfg {r : Rul} (hr : r.ok) (l : List Int) : Cfg r (confF r l) := ⟨by simp, fun x hx => by
  obtain ⟨i, _, rfl⟩ := List.mem_map.1 hx
  exact uM_lt (by have := hr.c2; omega)⟩
theorem confF_get (r : Rul) (l : List Int) (i : Nat) (h : i < (confF r l).length) : (confF r l)[i] = uM (if i < l.length then l.getD i 0 else (i : Int)) r.c := by simp [confF]
theorem l_config (r : Rul) (hr : r.ok) (l : List Int) (hl : l.length ≤ 20000000000000) : Pure Try.prog 18 [r.av, intsA l] (natsA (confF r l)) := by
  refine pure_of (acalls_of Try.func18 rfl Try.call18 (by kernel_rfl) (by show _ ≤ (34 : Nat); simp) ?_)
  have q1 := hr.m2; have q2 := hr.m6; have q3 := hr.c2; have q4 := hr.c6
  have hcl := confF_len r l
  have hne : ¬ confF r l = [] := fun e => by rw [e] at hcl; simp at hcl; omega
  simp only [Rul.av]
  simp [intsA]
  intro b2 hb2
  simp
  refine awp_loop_g (γ := At) (fun q t h => (q.i ≤ r.m) ∧ ((q.o = none ↔ (confF r l).take q.i = []) ∧ ¬ q.o = some b2) ∧ t 1 = .sl l.length (l.map (.int .i64)) ∧ t 2 = .ptr b2 0 ∧ t 5 = ownV q.o q.i 1 ∧ t 6 = .int .i64 q.i ∧ h = (AHeap.empty.upd b2 (.cells [.int .i64 r.m, .int .i64 r.c, rowsA r.next])).updO q.o (((confF r l).take q.i).map fun x : Nat => AV.int .i64 (x : Int))) (fun q => r.m - q.i) (⟨0, none⟩) (turnA_self (by simp)) ?_
  rintro q t h ⟨hi, ho, h1, h2, h5, h6, rfl⟩
  obtain ⟨i, o⟩ := q
  simp only at h1 h2 h5 h6 hi ho
  obtain ⟨ho1, ho2⟩ := ho
  by_cases hlt : i < r.m
  · have hwi : IntKind.i64.wrap ((i : Int) + 1) = (i : Int) + 1 := wrap_i64 (by omega) (by omega)
    have hil : i < (confF r l).length := by omega
    have hts : (confF r l).take (i + 1) = (confF r l).take i ++ [(confF r l)[i]] := List.take_succ_eq_append_getElem hil
    rw [confF_get] at hts
    have hcu : IntKind.u64.wrap (r.c : Int) = (r.c : Int) := wrap_u64 (by omega) (by omega)
    have hc0 : ¬ r.c = 0 := by omega
    have fin : ∀ x : Int, x = (if i < l.length then l.getD i 0 else (i : Int)) → (confF r l).take (i + 1) = (confF r l).take i ++ [uM x r.c] ∧ IntKind.i64.wrap ((IntKind.u64.wrap x).tmod (r.c : Int)) = (uM x r.c : Int) := by
      intro x hx
      have hu := uM_lt (x := x) (n := r.c) (by omega)
      rw [hx]
      refine ⟨hts, ?_⟩
      rw [← hx, uM_mod (by omega)]
      exact wrap_i64 (by omega) (by omega)
    by_cases hin : i < l.length
    · obtain ⟨x, hx⟩ : ∃ x, x = l[i] := ⟨_, rfl⟩
      have hx' : l[i]'hin = x := hx.symm
      obtain ⟨f1, f2⟩ := fin x (by rw [if_pos hin, hx]; simp [hin])
      obtain ⟨y, hy⟩ : ∃ y, y = uM x r.c := ⟨_, rfl⟩
      rw [← hy] at f1 f2
      simp [h1, h2, h5, h6, hlt, hin, hx', ho2, hcu, hc0, f2]
      intro b1 hb1
      simp [ho2] at hb1
      simp [h1, h2, h5, h6, hb1]
      refine appendA_updO (by omega) (by omega) (fun e => by simpa using ho1.1 e) (by simp; omega) (by simp) (by simp [ho2, hb1]) fun b' hb' => ?_
      simp at hb'
      simp [h1, h2, h5, h6, hb1, hb']
      refine turnA_to ((AHeap.empty.upd b2 (.cells [.int .i64 r.m, .int .i64 r.c, rowsA r.next])).updO (some b') (((confF r l).take (i + 1)).map fun x : Nat => AV.int .i64 (x : Int))) ?_ ⟨⟨i + 1, some b'⟩, by simp only; omega, by simp only; omega, by simp [f1, hb', hne], by simp [h1, h2, h5, h6, hwi, hb']⟩
      rw [f1]
      simp
      exact Drop.both (Drop.new (Drop.refl _) (by simp [hb1]))
    · obtain ⟨f1, f2⟩ := fin (i : Int) (by rw [if_neg hin])
      obtain ⟨y, hy⟩ : ∃ y, y = uM (i : Int) r.c := ⟨_, rfl⟩
      rw [← hy] at f1 f2
      simp [h1, h2, h5, h6, hlt, hin, ho2, hcu, hc0, f2]
      intro b1 hb1
      simp [ho2] at hb1
      simp [h1, h2, h5, h6, hb1]
      refine appendA_updO (by omega) (by omega) (fun e => by simpa using ho1.1 e) (by simp; omega) (by simp) (by simp [ho2, hb1]) fun b' hb' => ?_
      simp at hb'
      simp [h1, h2, h5, h6, hb1, hb']
      refine turnA_to ((AHeap.empty.upd b2 (.cells [.int .i64 r.m, .int .i64 r.c, rowsA r.next])).updO (some b') (((confF r l).take (i + 1)).map fun x : Nat => AV.int .i64 (x : Int))) ?_ ⟨⟨i + 1, some b'⟩, by simp only; omega, by simp only; omega, by simp [f1, hb', hne], by simp [h1, h2, h5, h6, hwi, hb']⟩
      rw [f1]
      simp
      exact Drop.both (Drop.new (Drop.refl _) (by simp [hb1]))
  · obtain rfl : i = r.m := by omega
    have hta : (confF r l).take r.m = confF r l := List.take_of_length_le (by omega)
    rw [hta] at ho1
    simp [h1, h2, h5, h6, hta, ho2]
    exact finA_list hcl.symm ho1 (by rw [listA, if_neg hne])
end Go.Proofs

end

section
/-
  Ring: walks of Number, Ready, Config, Step.
-/
namespace Go.Proofs
open Go Go.AH
set_option maxRecDepth 10000
set_option maxHeartbeats 4000000

theorem cfgL6 {r : Rul} (hr : r.ok) {l : List Int} (h : confE r l = 0) : (cfgL (natI l)).length = 6 := by
  have := (conf_cfg h).len
  exact cfgL_len (by have := hr.m6; omega)
theorem cfgL6' : (cfgL []).length = 6 := rfl
/-- The array that configOf hands back. -/
def confL (r : Rul) (l : List Int) : List AV := if confE r l = 0 then cfgL (natI l) else cfgL []
theorem confL_len {r : Rul} (hr : r.ok) (l : List Int) : (confL r l).length = 6 := by
  unfold confL
  split
  · next h => exact cfgL6 hr h
  · rfl
theorem confA_eq (r : Rul) (l : List Int) : confA r l = .tup [.agg (confL r l), .int .i64 (confE r l)] := by
  unfold confA confL cfgA
  split <;> rfl

theorem w_Number (r : Rul) (hr : r.ok) (l : List Int) (hl : l.length ≤ 1000000) : Pure Try.prog 20 [r.av, listI l] (.tup [.int .i64 (if confE r l = 0 then (numF r.c (natI l) : Nat) else 0 : Int), .int .i64 (confE r l)]) := by
  refine pure_of (acalls_of Try.func20 rfl Try.call20 (by kernel_rfl) (by show _ ≤ (20 : Nat); simp) ?_)
  have cc := w_configOf r hr l hl
  have h6 := confL_len hr l
  have htk : (confL r l).take 6 = confL r l := List.take_of_length_le (by omega)
  rw [confA_eq] at cc
  simp only [Rul.av] at cc ⊢
  simp
  intro b2 hb2
  simp
  refine cc.use ?_
  simp
  intro b6 hb6
  simp at hb6
  simp [hb6, h6]
  by_cases he : confE r l = 0
  · have cn := w_number r hr (natI l) (conf_cfg he)
    simp only [Rul.av, cfgA] at cn
    have hcl : confL r l = cfgL (natI l) := by unfold confL; rw [if_pos he]
    have hz : splice [.int .u8 0, .int .u8 0, .int .u8 0, .int .u8 0, .int .u8 0, .int .u8 0] 0 (confL r l) = confL r l := splice_all (by rw [h6]; rfl)
    simp [he, hb6, h6, htk, hz]
    rw [hcl]
    refine cn.use ?_
    simp
    exact finA_drop rfl
  · simp [he]
    exact finA_drop rfl

theorem w_Ready (r : Rul) (hr : r.ok) (l : List Int) (hl : l.length ≤ 1000000) : Pure Try.prog 21 [r.av, listI l] (.tup [if confE r l = 0 then listA (readyF r (natI l)) else .nilsl, .int .i64 (confE r l)]) := by
  refine pure_of (acalls_of Try.func21 rfl Try.call21 (by kernel_rfl) (by show _ ≤ (20 : Nat); simp) ?_)
  have cc := w_configOf r hr l hl
  have h6 := confL_len hr l
  have htk : (confL r l).take 6 = confL r l := List.take_of_length_le (by omega)
  rw [confA_eq] at cc
  simp only [Rul.av] at cc ⊢
  simp
  intro b2 hb2
  simp
  refine cc.use ?_
  simp
  intro b6 hb6
  simp at hb6
  simp [hb6, h6]
  by_cases he : confE r l = 0
  · have cn := w_ready r hr (natI l) (conf_cfg he)
    simp only [Rul.av, cfgA] at cn
    have hcl : confL r l = cfgL (natI l) := by unfold confL; rw [if_pos he]
    have hz : splice [.int .u8 0, .int .u8 0, .int .u8 0, .int .u8 0, .int .u8 0, .int .u8 0] 0 (confL r l) = confL r l := splice_all (by rw [h6]; rfl)
    simp [he, hb6, h6, htk, hz]
    rw [hcl]
    refine cn.use ?_
    simp
    exact finA_drop rfl
  · simp [he]
    exact finA_drop rfl

theorem w_Config (r : Rul) (hr : r.ok) (n : Int) : Pure Try.prog 26 [r.av, .int .i64 n] (if 0 ≤ n ∧ n < (r.size : Int) then .tup [natsA (ofF r.c r.m n.toNat), .int .i64 0] else .tup [.nilsl, .int .i64 1]) := by
  refine pure_of (acalls_of Try.func26 rfl Try.call26 (by kernel_rfl) (by show _ ≤ (28 : Nat); simp) ?_)
  have q1 := hr.m2; have q2 := hr.m6; have q3 := hr.c2; have q4 := hr.c6; have q5 := hr.sz
  have cc := w_Check r hr
  have cs := w_size r.m r.c q1 q2 q3 q4 q5
  simp only [Rul.av] at cc ⊢
  simp
  intro b2 hb2
  simp
  refine cc.use ?_
  by_cases h0 : n < 0
  · have hneg : ¬ (0 ≤ n ∧ n < (r.size : Int)) := by omega
    simp [h0, hneg]
    exact finA_drop rfl
  · simp [h0]
    refine cs.use ?_
    by_cases h1 : (r.size : Int) ≤ n
    · have hneg : ¬ (0 ≤ n ∧ n < (r.size : Int)) := by omega
      have h1' : (pw r.c r.m : Int) ≤ n := h1
      simp [h1', hneg]
      exact finA_drop rfl
    · obtain ⟨k, rfl⟩ : ∃ k : Nat, n = k := ⟨n.toNat, by omega⟩
      have hpos : 0 ≤ (k : Int) ∧ (k : Int) < (r.size : Int) := by omega
      have h1' : ¬ (pw r.c r.m : Int) ≤ (k : Int) := h1
      have h1'' : ¬ pw r.c r.m ≤ k := by omega
      have c1 := w_config r hr k (by omega)
      have c2 := w_listed r hr (ofF r.c r.m k) (of_cfg hr k)
      simp only [Rul.av] at c1 c2
      rw [if_pos hpos]
      simp [h1', h1'']
      refine awp_draw_text (by kernel_rfl) [26, 27] [(.fn (.func 59) [] [], [.agg [.int .i64 r.m, .int .i64 r.c, rowsA r.next], .int .i64 (k : Int)], cfgA (ofF r.c r.m k)),
        (.fn (.func 53) [] [], [.agg [.int .i64 r.m, .int .i64 r.c, rowsA r.next], cfgA (ofF r.c r.m k)], natsA (ofF r.c r.m k))] (by kernel_rfl) (by kernel_rfl) (by simp; exact ⟨PureV.of c1, PureV.of c2⟩) ?_
      simp [gamGet_here, gamGet_cons]
      exact finA_drop rfl

/-- Not rising, or no machine: as Step sees it. -/
def badM (m : Int) : Int → List Int → Bool
  | _, [] => false
  | last, i :: is => decide (i ≤ last) || decide (m ≤ i) || badM m i is
theorem badM_ok {m : Int} : ∀ {ms : List Int} {last : Int}, badM m last ms = false → ∀ i ∈ ms, last < i ∧ i < m
  | [], _, _, i, hi => by cases hi
  | j :: ms, last, h, i, hi => by
    simp only [badM, Bool.or_eq_false_iff, decide_eq_false_iff_not] at h
    rcases List.mem_cons.1 hi with rfl | hi
    · omega
    · have := badM_ok h.2 i hi
      omega
def lastM (ms : List Int) (k : Nat) : Int := if k = 0 then -1 else ms.getD (k - 1) 0
theorem badM_drop {m : Int} {ms : List Int} {k : Nat} (hk : k < ms.length) : badM m (lastM ms k) (ms.drop k) = (decide (ms[k] ≤ lastM ms k) || decide (m ≤ ms[k]) || badM m (lastM ms (k + 1)) (ms.drop (k + 1))) := by
  rw [List.drop_eq_getElem_cons hk, badM]
  have : lastM ms (k + 1) = ms[k] := by simp [lastM, hk]
  rw [this]
def stepE (r : Rul) (l ms : List Int) : Int :=
  if ¬ confE r l = 0 then confE r l else if badM r.m (-1) ms = true then 1 else if ms = [] then 1 else if ms.any (fun i => decide (takesF r (natI l) i.toNat < 0)) = true then 81 else 0

theorem w_Step1 (r : Rul) (hr : r.ok) (l : List Nat) (hl : Cfg r l) (b3 b8 : Nat) (H : AHeap) (e3 : ∀ off, cellsAt H b3 off = some (([AV.int .i64 (r.m : Int), .int .i64 (r.c : Int), rowsA r.next] : List AV).drop off)) (e8 : ∀ off, cellsAt H b8 off = some ((cfgL l).drop off)) (i : Int) (h0 : 0 ≤ i) (hi : i < r.m) :
    ACallV Try.prog (.fn (.func 55) [] [.ptr b3 0, .ptr b8 0]) [.int .i64 i] H fun r' h' => r' = .bool (decide (takesF r l i.toNat < 0)) ∧ h' = H := by
  obtain ⟨k, rfl⟩ : ∃ k : Nat, i = k := ⟨i.toNat, by omega⟩
  refine acalls_of Try.func55 rfl Try.call55 (by kernel_rfl) (by show _ ≤ (10 : Nat); simp) ?_
  have ct := w_takes r hr l hl k (by omega)
  have h6 : (cfgL l).length = 6 := cfgL_len (by have := hl.len; have := hr.m6; omega)
  have htk : (cfgL l).take 6 = cfgL l := List.take_of_length_le (by omega)
  simp only [Rul.av, cfgA] at ct
  simp [e3, e8, h6, htk]
  refine ct.use ?_
  simp
  exact finA_self ⟨rfl, rfl⟩

theorem w_Step (r : Rul) (hr : r.ok) (l : List Int) (hl : l.length ≤ 1000000) (ms : List Int) (hml : ms.length ≤ 1000000) : Pure Try.prog 22 [r.av, listI l, listI ms] (.tup [if stepE r l ms = 0 then natsA (stepF r (natI l) (natI ms)) else .nilsl, .int .i64 (stepE r l ms)]) := by
  refine pure_of (acalls_of Try.func22 rfl Try.call22 (by kernel_rfl) (by show _ ≤ (51 : Nat); simp) ?_)
  have q1 := hr.m2; have q2 := hr.m6
  have cc := w_configOf r hr l hl
  have c6 := confL_len hr l
  have htk : (confL r l).take 6 = confL r l := List.take_of_length_le (by omega)
  have hz : splice [.int .u8 0, .int .u8 0, .int .u8 0, .int .u8 0, .int .u8 0, .int .u8 0] 0 (confL r l) = confL r l := splice_all (by rw [c6]; rfl)
  rw [confA_eq] at cc
  simp only [Rul.av] at cc ⊢
  simp
  intro b3 hb3
  simp
  refine cc.use ?_
  simp
  intro b8 hb8
  simp at hb8
  simp [hb8, c6, hz]
  by_cases he : confE r l = 0
  · have hcfg := conf_cfg he
    have hcl : confL r l = cfgL (natI l) := by unfold confL; rw [if_pos he]
    by_cases hms : ms = []
    · subst hms
      have hs : stepE r l [] = 1 := by unfold stepE; rw [if_neg (by simpa using he), if_neg (by simp [badM]), if_pos rfl]
      simp [he, listI]
      refine awp_loop_g (γ := Nat) (fun k t h => t 2 = .nilsl ∧ t 23 = .int .i64 0 ∧ t 24 = .int .i64 0) (fun k => 0) (0) (turnA_self (by simp)) ?_
      rintro k t h ⟨h2, h23, h24⟩
      simp [h2, h23, h24]
      exact finA_drop (by simp [hs])
    · simp [he, listI, hms, intsA]
      obtain ⟨H, hH⟩ : ∃ H, H = (AHeap.empty.upd b3 (.cells [.int .i64 r.m, .int .i64 r.c, rowsA r.next])).upd b8 (.cells (confL r l)) := ⟨_, rfl⟩
      have e3 : ∀ off, cellsAt H b3 off = some (([AV.int .i64 (r.m : Int), .int .i64 (r.c : Int), rowsA r.next] : List AV).drop off) := by intro off; rw [hH]; simp [hb8]
      have e8 : ∀ off, cellsAt H b8 off = some ((cfgL (natI l)).drop off) := by intro off; rw [hH]; simp [hb8, hcl]
      rw [← hH]
      clear hH
      refine awp_loop_g (γ := Nat) (fun k t h => (k ≤ ms.length) ∧ (badM r.m (-1) ms = badM r.m (lastM ms k) (ms.drop k)) ∧ t 2 = .sl ms.length (ms.map (.int .i64)) ∧ t 3 = .ptr b3 0 ∧ t 8 = .ptr b8 0 ∧ t 10 = .int .i64 (lastM ms k) ∧ t 22 = .sl ms.length (ms.map (.int .i64)) ∧ t 23 = .int .i64 ms.length ∧ t 24 = .int .i64 k ∧ h = H) (fun k => ms.length - k) (0) (turnA_self (by simp [lastM])) ?_
      rintro k t h ⟨hk, hbad, h2, h3, h8, h10, h22, h23, h24, rfl⟩
      by_cases hlt : k < ms.length
      · have hwk : IntKind.i64.wrap ((k : Int) + 1) = (k : Int) + 1 := wrap_i64 (by omega) (by omega)
        rw [badM_drop hlt] at hbad
        obtain ⟨x, hx⟩ : ∃ x, x = ms[k] := ⟨_, rfl⟩
        have hx' : ms[k]'hlt = x := hx.symm
        have hnx : lastM ms (k + 1) = x := by simp [lastM, hlt, hx]
        rw [hx'] at hbad
        by_cases g1 : x ≤ lastM ms k
        · have hs : stepE r l ms = 1 := by unfold stepE; rw [if_neg (by simpa using he), if_pos (by rw [hbad]; simp [g1])]
          simp [h2, h3, h8, h10, h22, h23, h24, hlt, hx', g1]
          exact finA_drop (by simp [hs])
        · by_cases g2 : (r.m : Int) ≤ x
          · have hs : stepE r l ms = 1 := by unfold stepE; rw [if_neg (by simpa using he), if_pos (by rw [hbad]; simp [g2])]
            simp [h2, h3, h8, h10, h22, h23, h24, hlt, hx', g1, g2, e3]
            exact finA_drop (by simp [hs])
          · simp [h2, h3, h8, h10, h22, h23, h24, hlt, hx', g1, g2, e3]
            refine turnA_self ⟨k + 1, by omega, by omega, by rw [hbad]; simp [g1, g2], by simp [h2, h3, h8, h10, h22, h23, h24, hwk, hnx]⟩
      · obtain rfl : k = ms.length := by omega
        rw [List.drop_length] at hbad
        have hb0 : badM r.m (-1) ms = false := by rw [hbad]; rfl
        have hin := badM_ok hb0
        have hm0 : ¬ (ms.length : Int) = 0 := by simpa using hms
        have hfun : ∀ x ∈ ms, ACallV Try.prog (.fn (.func 55) [] [.ptr b3 0, .ptr b8 0]) [.int .i64 x] h fun r' h' => r' = .bool (decide (takesF r (natI l) x.toNat < 0)) ∧ h' = h := fun x hx => by
          have := hin x hx
          exact w_Step1 r hr (natI l) hcfg b3 b8 h e3 e8 x (by omega) this.2
        have cf := w_containsFunc ms (by omega) (.fn (.func 55) [] [.ptr b3 0, .ptr b8 0]) (fun x => decide (takesF r (natI l) x.toNat < 0)) h hfun
        simp only [intsA] at cf
        simp [h2, h3, h8, h10, h22, h23, h24, hms]
        refine cf.use ?_
        by_cases ha : ms.any (fun i => decide (takesF r (natI l) i.toNat < 0)) = true
        · have hs : stepE r l ms = 81 := by unfold stepE; rw [if_neg (by simpa using he), if_neg (by simp [hb0]), if_neg hms, if_pos ha]
          have ha' : anyI ms (fun x => decide (takesF r (natI l) x.toNat < 0)) = true := ha
          simp [h2, h3, h8, h10, h22, h23, h24, ha']
          exact finA_drop (by simp [hs])
        · have hs : stepE r l ms = 0 := by unfold stepE; rw [if_neg (by simpa using he), if_neg (by simp [hb0]), if_neg hms, if_neg ha]
          have ha' : anyI ms (fun x => decide (takesF r (natI l) x.toNat < 0)) = false := by simpa [anyI] using ha
          have hmsok : ∀ i ∈ natI ms, i < r.m ∧ 0 ≤ takesF r (natI l) i := by
            intro i hi
            obtain ⟨x, hx, rfl⟩ := List.mem_map.1 hi
            have := hin x hx
            have h2 := List.any_eq_false.1 (by simpa using ha : ms.any (fun i => decide (takesF r (natI l) i.toNat < 0)) = false) x hx
            simp at h2
            omega
          have c1 := w_step r hr (natI l) hcfg (natI ms) hmsok (by simpa using hml)
          have c2 := w_listed r hr (stepF r (natI l) (natI ms)) (step_cfg hr hcfg hmsok)
          have hmn : natsA (natI ms) = .sl ms.length (ms.map (.int .i64)) := by
            unfold natsA
            rw [natI_len]
            congr 1
            unfold natI
            rw [List.map_map]
            apply List.map_congr_left
            intro x hx
            have := hin x hx
            simp only [Function.comp_apply]
            congr 1
            omega
          rw [hmn] at c1
          have n6 : (cfgL (natI l)).length = 6 := cfgL6 hr he
          have ntk : (cfgL (natI l)).take 6 = cfgL (natI l) := List.take_of_length_le (by omega)
          simp only [Rul.av] at c1 c2
          simp [h2, h3, h8, h10, h22, h23, h24, ha']
          refine awp_draw_text (by kernel_rfl) [49, 50] [(.fn (.func 52) [] [], [.agg [.int .i64 r.m, .int .i64 r.c, rowsA r.next], cfgA (natI l), .sl ms.length (ms.map (.int .i64))], cfgA (stepF r (natI l) (natI ms))),
            (.fn (.func 53) [] [], [.agg [.int .i64 r.m, .int .i64 r.c, rowsA r.next], cfgA (stepF r (natI l) (natI ms))], natsA (stepF r (natI l) (natI ms)))] (by kernel_rfl) (by kernel_rfl) (by simp; exact ⟨PureV.of c1, PureV.of c2⟩) ?_
          simp [h2, h3, h8, h10, h22, h23, h24, e3, e8, n6, ntk, cfgA, gamGet_here, gamGet_cons]
          exact finA_drop (by simp [hs])
  · have hs : stepE r l ms = confE r l := by unfold stepE; rw [if_pos (by simpa using he)]
    simp [he]
    exact finA_drop (by simp [hs, he])
end Go.Proofs

end
