/-
  Ring: walks of the reference: taken, Ready, Number, Of, Step, Config, Size.
-/
import Derived.Test.YtobdaaoefbgilaaRgD
set_option linter.unusedSimpArgs false
set_option linter.unusedVariables false
set_option linter.unusedSectionVars false
namespace Go.Proofs
open Go Go.AH
set_option maxRecDepth 10000
set_option maxHeartbeats 4000000

theorem r_taken (r : Rul) (hr : r.ok) (l : List Nat) (hl : Cfg r l) (i : Nat) (hi : i < r.m) : Pure Try.prog 57 [r.av, natsA l, .int .i64 i] (.int .i64 (takesF r l i)) := by
  refine pure_of (acalls_of Try.func57 rfl Try.call57 (by kernel_rfl) (by show _ ≤ (51 : Nat); simp) ?_)
  have q1 := hr.m2; have q2 := hr.m6; have q3 := hr.c2; have q4 := hr.c6
  have hll := hl.len
  have h0 : 0 < r.m := by omega
  obtain ⟨a, ha⟩ : ∃ a, a = (i + r.m - 1) % r.m := ⟨_, rfl⟩
  obtain ⟨b, hb⟩ : ∃ b, b = (i + 1) % r.m := ⟨_, rfl⟩
  have ham : a < r.m := by rw [ha]; exact mod_lt' h0
  have hbm : b < r.m := by rw [hb]; exact mod_lt' h0
  have get : ∀ j (h : j < r.m), l[j]'(by omega) = colF l j := fun j h => by simp [colF, hll, h]
  have ga := get a ham
  have gi := get i hi
  have gb := get b hbm
  have la := colF_lt hl hr ham
  have li := colF_lt hl hr hi
  have lb := colF_lt hl hr hbm
  have hat : atF r l i = (colF l a * r.c + colF l i) * r.c + colF l b := by unfold atF; rw [← ha, ← hb]
  obtain ⟨t1, t2, et⟩ := takes_get hr hl hi
  rw [et]
  have hatl := atF_lt hr hl hi
  have hccc := ccc_le q4
  have e3 := idx3_lt la li lb
  rw [← hat] at e3
  generalize colF l a = u at *
  generalize colF l i = v at *
  generalize colF l b = w at *
  generalize hA : atF r l i = A at *
  have v1 : IntKind.i64.wrap ((i : Int) + (r.m : Int)) = (i : Int) + (r.m : Int) := wrap_i64 (by omega) (by omega)
  obtain ⟨N1, hN1⟩ : ∃ N1, N1 = i + r.m - 1 := ⟨_, rfl⟩
  obtain ⟨N2, hN2⟩ : ∃ N2, N2 = i + 1 := ⟨_, rfl⟩
  rw [← hN1] at ha
  rw [← hN2] at hb
  have v2 : IntKind.i64.wrap ((i : Int) + (r.m : Int) - 1) = (N1 : Int) := by rw [wrap_i64 (by omega) (by omega)]; omega
  have v3 : (N1 : Int).tmod (r.m : Int) = (a : Int) := by rw [Int.tmod_eq_emod_of_nonneg (by omega), ha]; rfl
  have v4 : IntKind.i64.wrap ((i : Int) + 1) = (N2 : Int) := by rw [wrap_i64 (by omega) (by omega)]; omega
  have v5 : (N2 : Int).tmod (r.m : Int) = (b : Int) := by rw [Int.tmod_eq_emod_of_nonneg (by omega), hb]; rfl
  have b1 : u * r.c ≤ 6 * 6 := Nat.mul_le_mul (by omega) q4
  obtain ⟨p, hp⟩ : ∃ p, p = u * r.c := ⟨_, rfl⟩
  have y1 : IntKind.i64.wrap ((u : Int) * (r.c : Int)) = (p : Int) := by rw [← Int.natCast_mul, hp]; exact wrap_i64 (by omega) (by omega)
  rw [← hp] at b1 hat
  obtain ⟨p2, hp2⟩ : ∃ p2, p2 = p + v := ⟨_, rfl⟩
  have y2 : IntKind.i64.wrap ((p : Int) + (v : Int)) = (p2 : Int) := by rw [← Int.natCast_add, ← hp2]; exact wrap_i64 (by omega) (by omega)
  rw [← hp2] at hat
  have b2 : p2 * r.c ≤ 42 * 6 := Nat.mul_le_mul (by omega) q4
  obtain ⟨p3, hp3⟩ : ∃ p3, p3 = p2 * r.c := ⟨_, rfl⟩
  have y3 : IntKind.i64.wrap ((p2 : Int) * (r.c : Int)) = (p3 : Int) := by rw [← Int.natCast_mul, ← hp3]; exact wrap_i64 (by omega) (by omega)
  rw [← hp3] at b2 hat
  have y4 : IntKind.i64.wrap ((p3 : Int) + (w : Int)) = (A : Int) := by rw [← Int.natCast_add, ← hat]; exact wrap_i64 (by omega) (by omega)
  have hm0 : ¬ r.m = 0 := by omega
  have hin : i < r.next.length := t1
  have hrl : r.next[i].length = r.c * r.c * r.c := hr.rl _ (List.getElem_mem t1)
  have e3' : (A : Int) < (r.c : Int) * r.c * r.c := by rw [← Int.natCast_mul, ← Int.natCast_mul]; omega
  simp [Rul.av, natsA]
  intro b3 hb3
  simp
  refine awp_draw_text (by kernel_rfl) [] [] (by kernel_rfl) (by kernel_rfl) (by simp) ?_
  simp [hm0, v1, v2, v3, v4, v5, ham, hbm, hi, hll, ga, gi, gb]
  refine awp_draw_text (by kernel_rfl) [] [] (by kernel_rfl) (by kernel_rfl) (by simp) ?_
  simp [y1, y2, y3, y4, rowsA, intsA, hin, hrl, e3, e3']
  exact finA_drop rfl

theorem r_Ready (r : Rul) (hr : r.ok) (l : List Nat) (hl : Cfg r l) : Pure Try.prog 23 [r.av, natsA l] (listA (readyF r l)) := by
  refine pure_of (acalls_of Try.func23 rfl Try.call23 (by kernel_rfl) (by show _ ≤ (23 : Nat); simp) ?_)
  have q2 := hr.m6
  have ct := r_taken r hr l hl
  simp only [Rul.av] at ct ⊢
  simp
  intro b2 hb2
  simp
  refine awp_loop_g (γ := At) (fun q t h => (q.i ≤ r.m) ∧ ((q.o = none ↔ readyK r l q.i = []) ∧ ¬ q.o = some b2) ∧ t 1 = natsA l ∧ t 2 = .ptr b2 0 ∧ t 5 = ownV q.o (readyK r l q.i).length 1 ∧ t 6 = .int .i64 q.i ∧ h = (AHeap.empty.upd b2 (.cells [.int .i64 r.m, .int .i64 r.c, rowsA r.next])).updO q.o ((readyK r l q.i).map fun x : Nat => AV.int .i64 (x : Int))) (fun q => r.m - q.i) (⟨0, none⟩) (turnA_self (by simp [readyK])) ?_
  rintro q t h ⟨hi, ho, h1, h2, h5, h6, rfl⟩
  obtain ⟨i, o⟩ := q
  simp only at h1 h2 h5 h6 hi ho
  obtain ⟨ho1, ho2⟩ := ho
  by_cases hlt : i < r.m
  · have hwi : IntKind.i64.wrap ((i : Int) + 1) = (i : Int) + 1 := wrap_i64 (by omega) (by omega)
    have hs := readyK_succ r l i
    have hkl := readyK_len r l i
    simp [h1, h2, h5, h6, hlt, ho2]
    refine (ct i hlt).use ?_
    by_cases hp : 0 ≤ takesF r l i
    · rw [if_pos hp] at hs
      simp [h1, h2, h5, h6, hp]
      intro b1 hb1
      simp [ho2] at hb1
      simp [h1, h2, h5, h6, hb1]
      refine appendA_updO (by omega) (by omega) (by simpa using ho1.1) (by simp) (by simp) (by simp [ho2, hb1]) fun b' hb' => ?_
      simp at hb'
      simp [h1, h2, h5, h6, hb1, hb']
      refine turnA_to ((AHeap.empty.upd b2 (.cells [.int .i64 r.m, .int .i64 r.c, rowsA r.next])).updO (some b') ((readyK r l (i + 1)).map fun x : Nat => AV.int .i64 (x : Int))) ?_ ⟨⟨i + 1, some b'⟩, by simp only; omega, by simp only; omega, by simp [hs, hb'], by simp [h1, h2, h5, h6, hwi, hs, hb']⟩
      rw [hs]
      simp
      exact Drop.both (Drop.new (Drop.refl _) (by simp [hb1]))
    · rw [if_neg hp] at hs
      simp [h1, h2, h5, h6, hp]
      exact turnA_self ⟨⟨i + 1, o⟩, by simp only; omega, by simp only; omega, by simp [hs, ho1, ho2], by simp [h1, h2, h5, h6, hwi, hs]⟩
  · obtain rfl : i = r.m := by omega
    simp [h1, h2, h5, h6, ho2]
    have hrk : readyK r l r.m = readyF r l := rfl
    rw [hrk] at ho1 ⊢
    exact finA_list rfl ho1 rfl

theorem r_Number (r : Rul) (hr : r.ok) (l : List Nat) (hl : Cfg r l) : Pure Try.prog 24 [r.av, natsA l] (.int .i64 (numF r.c l : Nat)) := by
  refine pure_of (acalls_of Try.func24 rfl Try.call24 (by kernel_rfl) (by show _ ≤ (23 : Nat); simp) ?_)
  have q1 := hr.m2; have q2 := hr.m6; have q3 := hr.c2; have q4 := hr.c6
  have hll := hl.len
  simp [Rul.av, natsA]
  intro b2 hb2
  simp
  refine awp_loop_g (γ := Nat) (fun i t h => (i ≤ r.m) ∧ t 1 = .sl l.length (l.map fun x : Nat => AV.int .i64 (x : Int)) ∧ t 2 = .ptr b2 0 ∧ t 5 = .int .i64 (numF r.c (l.take i) : Nat) ∧ t 6 = .int .i64 i ∧ h = AHeap.empty.upd b2 (.cells [.int .i64 r.m, .int .i64 r.c, rowsA r.next])) (fun i => r.m - i) (0) (turnA_self (by simp [numF])) ?_
  rintro i t h ⟨hi, h1, h2, h5, h6, rfl⟩
  by_cases hlt : i < r.m
  · have hwi : IntKind.i64.wrap ((i : Int) + 1) = (i : Int) + 1 := wrap_i64 (by omega) (by omega)
    have hil : i < l.length := by omega
    have ht := numF_take r.c l i hil
    have hb1 := num_take_le q3 q4 (by omega) hl.lt (i + 1)
    have hb0 := num_take_le q3 q4 (by omega) hl.lt i
    obtain ⟨x, hx⟩ : ∃ x, x = l[i] := ⟨_, rfl⟩
    rw [← hx] at ht
    obtain ⟨n, hn⟩ : ∃ n, n = numF r.c (l.take i) := ⟨_, rfl⟩
    obtain ⟨n', hn'⟩ : ∃ n', n' = numF r.c (l.take (i + 1)) := ⟨_, rfl⟩
    rw [← hn, ← hn'] at ht
    rw [← hn'] at hb1
    rw [← hn] at hb0
    have hx' : l[i]'hil = x := hx.symm
    have v1 : IntKind.i64.wrap ((n : Int) * (r.c : Int)) = (n : Int) * (r.c : Int) := by rw [← Int.natCast_mul]; exact wrap_i64 (by omega) (by omega)
    have v2 : IntKind.i64.wrap ((n : Int) * (r.c : Int) + (x : Int)) = (n' : Int) := by rw [← Int.natCast_mul, ht]; rw [wrap_i64 (by omega) (by omega)]; omega
    simp [h1, h2, h5, h6, hlt, hll]
    refine awp_draw_text (by kernel_rfl) [] [] (by kernel_rfl) (by kernel_rfl) (by simp) ?_
    simp [h1, h2, h5, h6, hlt, hll, ← hn, hx', v1, v2]
    refine turnA_self ⟨i + 1, by omega, by omega, by simp [h1, h2, h5, h6, hwi, ← hn', hll]⟩
  · obtain rfl : i = r.m := by omega
    simp [h1, h2, h5, h6, hll]
    exact finA_drop (by rw [← hll, List.take_length])

/-- The list as far as it is filled, from behind. -/
def fillN (c m n i : Nat) : List Nat := (List.range m).map fun j => if i ≤ j then (ofF c m n).getD j 0 else 0
@[simp] theorem fillN_len (c m n i : Nat) : (fillN c m n i).length = m := by simp [fillN]
theorem fillN_end (c m n : Nat) : fillN c m n m = List.replicate m 0 := by
  refine List.ext_getElem (by simp) fun j h1 h2 => ?_
  have : ¬ m ≤ j := by simp at h1; omega
  simp [fillN, this]
theorem fillN_zero (c m n : Nat) : fillN c m n 0 = ofF c m n := by
  refine List.ext_getElem (by simp) fun j h1 h2 => ?_
  simp only [fillN, List.getElem_map, List.getElem_range, Nat.zero_le, if_true]
  rw [List.getD_eq_getElem?_getD, List.getElem?_eq_getElem h2]; rfl
theorem fillN_step {c m n i : Nat} (hi : i < m) : (fillN c m n (i + 1)).set i ((ofF c m n).getD i 0) = fillN c m n i := by
  refine List.ext_getElem (by simp) fun j h1 h2 => ?_
  rw [List.getElem_set]
  simp only [fillN, List.getElem_map, List.getElem_range]
  split
  · next e => subst e; simp
  · next e =>
    by_cases h : i ≤ j
    · have : i + 1 ≤ j := by omega
      simp [h, this]
    · have : ¬ i + 1 ≤ j := by omega
      simp [h, this]
theorem r_Of (r : Rul) (hr : r.ok) (n : Nat) (hn : n < r.size) : Pure Try.prog 28 [r.av, .int .i64 n] (natsA (ofF r.c r.m n)) := by
  refine pure_of (acalls_of Try.func28 rfl Try.call28 (by kernel_rfl) (by show _ ≤ (29 : Nat); simp) ?_)
  have q1 := hr.m2; have q2 := hr.m6; have q3 := hr.c2; have q4 := hr.c6; have q5 := hr.sz
  have hm1 : IntKind.i64.wrap ((r.m : Int) - 1) = ((r.m : Nat) : Int) - 1 := wrap_i64 (by omega) (by omega)
  have hm30 : (r.m : Int) < 1073741824 := by omega
  have hm30' : r.m < 1073741824 := by omega
  simp [Rul.av]
  intro b2 hb2
  simp [hm30, hm30']
  intro b5 hb5
  simp at hb5
  have hst : List.replicate r.m (AV.int .i64 0) = (fillN r.c r.m n r.m).map fun x : Nat => AV.int .i64 (x : Int) := by rw [fillN_end]; simp
  simp [hb5, hm1]
  refine awp_loop_g (γ := Nat) (fun i t h => (i ≤ r.m) ∧ t 1 = .int .i64 (upF r.c n (r.m - i) : Nat) ∧ t 2 = .ptr b2 0 ∧ t 5 = .osl b5 0 r.m 1 ∧ t 6 = .int .i64 ((i : Int) - 1) ∧ h = (AHeap.empty.upd b2 (.cells [.int .i64 r.m, .int .i64 r.c, rowsA r.next])).upd b5 (.cells ((fillN r.c r.m n i).map fun x : Nat => AV.int .i64 (x : Int)))) (fun i => i) (r.m) (turnA_self (by simp [hb5, hst, upF, pw_zero])) ?_
  rintro i t h ⟨hi, h1, h2, h5, h6, rfl⟩
  by_cases hlt : 0 < i
  · have hi1 : (1 : Int) ≤ (i : Int) := by omega
    have hi1' : 1 ≤ i := by omega
    have hq : upF r.c n (r.m - i) ≤ 20000 := Nat.le_trans (Nat.div_le_self _ _) (by unfold Rul.size at hn q5; omega)
    obtain ⟨q, hqe⟩ : ∃ q, q = upF r.c n (r.m - i) := ⟨_, rfl⟩
    rw [← hqe] at hq
    have hdig : (ofF r.c r.m n).getD (i - 1) 0 = q % r.c := by
      rw [ofF_get _ _ _ _ (by omega), hqe]; unfold upF; congr 3; omega
    have hdiv : upF r.c n (r.m - (i - 1)) = q / r.c := by
      unfold upF at hqe ⊢
      have e : r.m - (i - 1) = (r.m - i) + 1 := by omega
      rw [e, pw_succ, ← Nat.div_div_eq_div_mul, hqe]
    have hmod : q % r.c < r.c := Nat.mod_lt _ (by omega)
    have hc0 : ¬ r.c = 0 := by omega
    have v1 : (q : Int).tmod (r.c : Int) = (q % r.c : Nat) := by rw [Int.tmod_eq_emod_of_nonneg (by omega)]; rfl
    have v2 : (q : Int).tdiv (r.c : Int) = (q / r.c : Nat) := by rw [Int.tdiv_eq_ediv_of_nonneg (by omega)]; rfl
    have hdl : q / r.c ≤ q := Nat.div_le_self _ _
    have hset := fillN_step (c := r.c) (n := n) (i := i - 1) (m := r.m) (by omega)
    rw [hdig, show i - 1 + 1 = i from by omega] at hset
    generalize hd : q % r.c = d at *
    have hsp : splice ((fillN r.c r.m n i).map fun x : Nat => AV.int .i64 (x : Int)) (i - 1) [AV.int .i64 (d : Int)] = (fillN r.c r.m n (i - 1)).map fun x : Nat => AV.int .i64 (x : Int) := by
      rw [splice_one (by simp; omega), ← hset, List.map_set]
    generalize hqq : q / r.c = qd at *
    have v4 : IntKind.i64.wrap (qd : Int) = qd := wrap_i64 (by omega) (by omega)
    have v5 : IntKind.i64.wrap ((i : Int) - 1 - 1) = ((i - 1 : Nat) : Int) - 1 := by rw [wrap_i64 (by omega) (by omega)]; omega
    have hin : (i : Int) - 1 < r.m := by omega
    have hnat : ((i : Int) - 1).toNat = i - 1 := by omega
    have hil : i - 1 + 1 ≤ r.m := by omega
    simp [h1, h2, h5, h6, hi1, hi1', hin, ← hqe, hb5, hc0, v1, v2, v4, hnat, hil]
    refine ⟨by omega, turnA_self ⟨i - 1, by omega, by omega, by simp [h1, h2, h5, h6, v5, hdiv, hsp]⟩⟩
  · obtain rfl : i = 0 := by omega
    simp [h1, h2, h5, h6, hb5, fillN_zero]
    have hne : ¬ ofF r.c r.m n = [] := fun e => by have := ofF_len r.c r.m n; rw [e] at this; simp at this; omega
    exact finA_list (o := some b5) (l := ofF r.c r.m n) (by simp) (by simp [hne]) (by rw [listA, if_neg hne])

theorem r_Step (r : Rul) (hr : r.ok) (l : List Nat) (hl : Cfg r l) (ms : List Nat) (hms : ∀ i ∈ ms, i < r.m ∧ 0 ≤ takesF r l i) (hml : ms.length ≤ 1000000) : Pure Try.prog 25 [r.av, natsA l, natsA ms] (natsA (stepF r l ms)) := by
  refine pure_of (acalls_of Try.func25 rfl Try.call25 (by kernel_rfl) (by show _ ≤ (32 : Nat); simp) ?_)
  have q1 := hr.m2; have q2 := hr.m6; have q4 := hr.c6
  have hll := hl.len
  have hsl : ∀ ms, (stepF r l ms).length = r.m := fun ms => by rw [stepF_len, hll]
  have ct := r_taken r hr l hl
  have hne : ¬ r.m = 0 := by omega
  have hm30 : r.m < 1073741824 := by omega
  have hne' : ¬ l = [] := fun e => by rw [e] at hll; exact hne hll.symm
  simp only [Rul.av, natsA] at ct ⊢
  simp
  intro b3 hb3
  simp [hll, hne, hne', hm30]
  intro b7 hb7
  simp at hb7
  simp [hb7]
  refine awp_loop_g (γ := Nat) (fun k t h => (k ≤ ms.length) ∧ t 1 = .sl r.m (l.map fun x : Nat => AV.int .i64 (x : Int)) ∧ t 2 = .sl ms.length (ms.map fun x : Nat => AV.int .i64 (x : Int)) ∧ t 3 = .ptr b3 0 ∧ t 7 = .osl b7 0 r.m 1 ∧ t 8 = .int .i64 k ∧ h = (AHeap.empty.upd b3 (.cells [.int .i64 r.m, .int .i64 r.c, rowsA r.next])).upd b7 (.cells ((stepF r l (ms.take k)).map fun x : Nat => AV.int .i64 (x : Int)))) (fun k => ms.length - k) (0) (turnA_self (by simp [stepF])) ?_
  rintro k t h ⟨hk, h1, h2, h3, h7, h8, rfl⟩
  by_cases hlt : k < ms.length
  · have hwk : IntKind.i64.wrap ((k : Int) + 1) = (k : Int) + 1 := wrap_i64 (by omega) (by omega)
    have hst := stepF_take r l ms k hlt
    obtain ⟨hmi, hmt⟩ := hms ms[k] (List.getElem_mem hlt)
    obtain ⟨i, hi⟩ : ∃ i, i = ms[k] := ⟨_, rfl⟩
    rw [← hi] at hst hmi hmt
    have hbd := takes_bd hr hl hmi
    have hlen := hsl (ms.take k)
    obtain ⟨x, hx⟩ : ∃ x : Nat, x = (takesF r l i).toNat := ⟨_, rfl⟩
    have hxi : takesF r l i = (x : Int) := by omega
    have cti := ct i hmi
    rw [hxi, hll] at cti
    rw [← hx] at hst
    have hsp : ((stepF r l (ms.take k)).map fun x : Nat => AV.int .i64 (x : Int)).set i (AV.int .i64 (x : Int)) = (stepF r l (ms.take (k + 1))).map fun x : Nat => AV.int .i64 (x : Int) := by rw [hst, List.map_set]
    have hi' : ms[k]'hlt = i := hi.symm
    have hi1 : i + 1 ≤ r.m := by omega
    simp [h1, h2, h3, h7, h8, hlt, hi', hb7]
    refine awp_draw_text (by kernel_rfl) [29] [(.fn (.func 57) [] [], [.agg [.int .i64 r.m, .int .i64 r.c, rowsA r.next], .sl r.m (l.map fun x : Nat => AV.int .i64 (x : Int)), .int .i64 i], .int .i64 (x : Int))] (by kernel_rfl) (by kernel_rfl) (by simp; exact PureV.of cti) ?_
    simp [h1, h2, h3, h7, h8, hlt, hi', hb7, hmi, hi1, hlen, gamGet_here]
    exact turnA_self ⟨k + 1, by omega, by omega, by simp [h1, h2, h3, h7, h8, hwk, hsp]⟩
  · obtain rfl : k = ms.length := by omega
    simp [h1, h2, h3, h7, h8, hb7]
    have hsm := hsl ms
    have hne2 : ¬ stepF r l ms = [] := fun e => by rw [e] at hsm; exact hne hsm.symm
    exact finA_list (o := some b7) (l := stepF r l ms) hsm.symm (by simp [hne2]) (by rw [listA, if_neg hne2]; rfl)
end Go.Proofs
