/-
  Texts: RgK1 RgK2 RgK3.
-/
import Derived.Test.YtobdaaoefbgilaaG4
set_option linter.unusedSimpArgs false
set_option linter.unusedVariables false
set_option linter.unusedSectionVars false
section
/-
  Ring: the reference's Next, IsGood.
-/
namespace Go.Proofs
open Go Go.AH
set_option maxRecDepth 10000
set_option maxHeartbeats 4000000

theorem r_IsGood (r : Rul) (hr : r.ok) (n : Nat) (hn : n < r.size) : Pure Try.prog 41 [r.av, .int .i64 n] (.bool (goodF r n)) := by
  refine pure_of (acalls_of Try.func41 rfl Try.call41 (by kernel_rfl) (by show _ ≤ (12 : Nat); simp) ?_)
  have c1 := r_Of r hr n hn
  have c2 := r_Ready r hr (ofF r.c r.m n) (of_cfg hr n)
  simp only [Rul.av] at c1 c2 ⊢
  simp
  intro b hb
  simp
  refine awp_draw_text (by kernel_rfl) [8, 9] [(.fn (.func 28) [] [], [.agg [.int .i64 r.m, .int .i64 r.c, rowsA r.next], .int .i64 n], natsA (ofF r.c r.m n)),
    (.fn (.func 23) [] [], [.agg [.int .i64 r.m, .int .i64 r.c, rowsA r.next], natsA (ofF r.c r.m n)], listA (readyF r (ofF r.c r.m n)))] (by kernel_rfl) (by kernel_rfl) (by simp; exact ⟨PureV.of c1, PureV.of c2⟩) ?_
  simp [gamGet_here, gamGet_cons, -lenA, lenA_listA]
  refine finA_drop ?_
  unfold goodF
  simp
  omega

def pow2B (s : Nat) : Bool := (s + 1) &&& s == 0
/-- Where steps lead: the reference's order. -/
def nextF (r : Rul) (n : Nat) (joint : Bool) (T : Nat) : List Nat := ((List.range T).filter fun s => joint || pow2B s).map fun s => numF r.c (stepF r (ofF r.c r.m n) (pickS (readyF r (ofF r.c r.m n)) (s + 1)))
theorem nextF_succ (r : Rul) (n : Nat) (joint : Bool) (s : Nat) : nextF r n joint (s + 1) = nextF r n joint s ++ if (joint || pow2B s) = true then [numF r.c (stepF r (ofF r.c r.m n) (pickS (readyF r (ofF r.c r.m n)) (s + 1)))] else [] := by
  unfold nextF
  rw [List.range_succ, List.filter_append, List.map_append]
  congr 1
  by_cases h : (joint || pow2B s) = true
  · simp [h]
  · simp [h]
theorem nextF_true (r : Rul) (n : Nat) : nextF r n true (2 ^ (readyF r (ofF r.c r.m n)).length - 1) = jointF r n := by
  unfold nextF jointF
  rw [List.filter_eq_self.2 (by simp)]
theorem pow2_filter : ∀ len, len < 7 → (List.range (2 ^ len - 1)).filter pow2B = (List.range len).map fun k => 2 ^ k - 1 := by decide +kernel
theorem pickI_pow : ∀ len, len < 7 → ∀ k, k < len → pickI len (2 ^ k - 1 + 1) = [k] := by decide +kernel
theorem nextF_false (r : Rul) (hr : r.ok) (n : Nat) : nextF r n false (2 ^ (readyF r (ofF r.c r.m n)).length - 1) = succF r n := by
  unfold nextF succF
  have hl := readyF_len0 r (ofF r.c r.m n)
  have := hr.m6
  generalize hR : readyF r (ofF r.c r.m n) = R at hl ⊢
  have hf : (fun s => false || pow2B s) = pow2B := by funext s; simp
  rw [hf, pow2_filter R.length (by omega), List.map_map]
  refine List.ext_getElem (by simp) fun k h1 h2 => ?_
  have hk : k < R.length := by simpa using h1
  simp only [List.getElem_map, List.getElem_range, Function.comp]
  unfold pickS
  rw [pickI_pow R.length (by omega) k hk]
  simp [hk]
/-- What the reference's Next answers. -/
def moveL (r : Rul) (n : Nat) (joint : Bool) : List Nat := if joint = true then jointF r n else succF r n
theorem nextF_move (r : Rul) (hr : r.ok) (n : Nat) (joint : Bool) : nextF r n joint (2 ^ (readyF r (ofF r.c r.m n)).length - 1) = moveL r n joint := by
  cases joint
  · exact nextF_false r hr n
  · exact nextF_true r n
theorem bit_val2 : ∀ s : Nat, s < 64 → ∀ k : Nat, k < 6 → Int.tmod (Int.fdiv ((s : Int) + 1) (2 ^ min k IntKind.i64.bits)) 2 = if bitB (s + 1) k = true then 1 else 0 := by decide +kernel
theorem and_val : ∀ s : Nat, s < 64 → (IntKind.i64.wrap (((((s : Int) + 1) % 2 ^ IntKind.i64.bits).toNat &&& s % 2 ^ IntKind.i64.bits : Nat) : Int) = 0 ↔ pow2B s = true) := by decide +kernel
theorem nextF_len (r : Rul) (n : Nat) (joint : Bool) (T : Nat) : (nextF r n joint T).length ≤ T := by
  unfold nextF
  rw [List.length_map]
  exact Nat.le_trans (List.length_filter_le _ _) (by simp)

theorem r_Next0 (r : Rul) (hr : r.ok) (n : Nat) (hn : n < r.size) (joint jb : Bool) (hjb : jb = joint) : Pure Try.prog 38 [r.av, .int .i64 n, .bool jb] (listA (moveL r n joint)) := by
  refine pure_of (acalls_of Try.func38 rfl Try.call38 (by kernel_rfl) (by show _ ≤ (65 : Nat); simp) ?_)
  have q1 := hr.m2; have q2 := hr.m6; have q3 := hr.c2; have q4 := hr.c6; have q5 := hr.sz
  have hmv := nextF_move r hr n joint
  have nsucc := nextF_succ r n joint
  have nlen := nextF_len r n joint
  have cf := of_cfg hr n
  have c1 := r_Of r hr n hn
  have c2 := r_Ready r hr (ofF r.c r.m n) cf
  obtain ⟨l, hl⟩ : ∃ l, l = ofF r.c r.m n := ⟨_, rfl⟩
  rw [← hl] at c1 c2 cf hmv nsucc
  obtain ⟨R, hR⟩ : ∃ R, R = readyF r l := ⟨_, rfl⟩
  rw [← hR] at c2 hmv nsucc
  have hRl : R.length ≤ r.m := by rw [hR]; exact readyF_len0 r l
  have hRok : ∀ i ∈ R, i < r.m ∧ 0 ≤ takesF r l i := by rw [hR]; exact fun i hi => readyF_ok0 i hi
  obtain ⟨p64, pw2⟩ := pow_le64 R.length (by omega)
  obtain ⟨T, hT⟩ : ∃ T, T = 2 ^ R.length := ⟨_, rfl⟩
  rw [← hT] at p64 pw2 hmv
  have hTp : 0 < T := by rw [hT]; exact Nat.pow_pos (by omega)
  have hRi : ¬ ((R.length : Int) < 0) := by omega
  have hu64 : IntKind.u64.wrap (R.length : Int) = R.length := wrap_u64 (by omega) (by omega)
  simp only [Rul.av] at c1 c2 ⊢
  simp
  intro b3 hb3
  simp
  refine c1.use ?_
  simp
  refine c2.use ?_
  simp
  refine awp_loop_g (γ := At) (fun q t h => (q.i + 1 ≤ T) ∧ ((q.o = none ↔ nextF r n joint q.i = []) ∧ ¬ q.o = some b3) ∧ t 2 = .bool jb ∧ t 3 = .ptr b3 0 ∧ t 7 = natsA l ∧ t 8 = listA R ∧ t 9 = ownV q.o (nextF r n joint q.i).length 1 ∧ t 10 = .int .i64 ((q.i + 1 : Nat) : Int) ∧ h = (AHeap.empty.upd b3 (.cells [.int .i64 r.m, .int .i64 r.c, rowsA r.next])).updO q.o ((nextF r n joint q.i).map fun x : Nat => AV.int .i64 (x : Int))) (fun q => T - q.i) (⟨0, none⟩) (turnA_self (by simp [nextF]; omega)) ?_
  rintro q t h ⟨hs, ho, h2, h3, h7, h8, h9, h10, rfl⟩
  obtain ⟨s, o⟩ := q
  simp only at h2 h3 h7 h8 h9 h10 hs ho
  obtain ⟨ho1, ho2⟩ := ho
  by_cases hlt : s + 1 < T
  · have hltI : ((s : Int) + 1) < (T : Int) := by omega
    have hws : IntKind.i64.wrap ((s : Int) + 1 + 1) = (s : Int) + 1 + 1 := wrap_i64 (by omega) (by omega)
    have hand := and_val s (by omega)
    have hs2 : IntKind.i64.wrap (s : Int) = s := wrap_i64 (by omega) (by omega)
    have hRn : ¬ R = [] := fun e => by rw [e] at hT; simp at hT; omega
    have hla : listA R = .sl R.length (R.map fun x : Nat => AV.int .i64 (x : Int)) := by unfold listA; rw [if_neg hRn]; rfl
    have hcase : (jb = true ∧ (joint || pow2B s) = true) ∨ (jb = false ∧ pow2B s = true) ∨ (jb = false ∧ pow2B s = false) := by
      cases hp : pow2B s <;> cases joint <;> simp_all
    simp [h2, h3, h7, h8, h9, h10, -lenA, lenA_listA, hu64, hRi, pw2, hltI]
    have hpn := pickI_ne R.length (by omega) (s + 1) (by omega) (by omega) (by rw [← hT]; exact hlt)
    have hps : pickK R (s + 1) R.length = pickS R (s + 1) := rfl
    have hpsn : ¬ pickS R (s + 1) = [] := by unfold pickS; simpa using hpn
    have hms : ∀ i ∈ pickS R (s + 1), i < r.m ∧ 0 ≤ takesF r l i := fun i hi => hRok i (pickS_mem i hi)
    have c3 := r_Step r hr l cf (pickS R (s + 1)) hms (by have := pickK_len R (s + 1) R.length; rw [hps] at this; omega)
    have cf2 := step_cfg hr cf hms
    have c4 := r_Number r hr (stepF r l (pickS R (s + 1))) cf2
    simp only [Rul.av] at c3 c4
    have nsuccs := nsucc s
    rcases hcase with ⟨hj, hk⟩ | ⟨hj, hk⟩ | ⟨hj, hk⟩
    rotate_left 2
    · have hnk : ¬ IntKind.i64.wrap (((((s : Int) + 1) % 2 ^ IntKind.i64.bits).toNat &&& s % 2 ^ IntKind.i64.bits : Nat) : Int) = 0 := fun q => by rw [hand.1 q] at hk; cases hk
      have hk2 : (joint || pow2B s) = false := by rw [hk, ← hjb, hj]; rfl
      rw [if_neg (by rw [hk2]; simp), List.append_nil] at nsuccs
      rw [hj]
      simp [h2, h3, h7, h8, h9, h10, hj, hs2, hnk]
      exact turnA_self ⟨⟨s + 1, o⟩, by simp only; omega, by simp only; omega, ⟨by simp only; rw [nsuccs]; exact ho1, ho2⟩, by simp [h2, h3, h7, h8, h9, h10, hj, hws, nsuccs]⟩
    · rw [if_pos hk] at nsuccs
      obtain ⟨HH, hHH⟩ : ∃ HH, HH = (AHeap.empty.upd b3 (.cells [.int .i64 r.m, .int .i64 r.c, rowsA r.next])).updO o ((nextF r n joint s).map fun x : Nat => AV.int .i64 (x : Int)) := ⟨_, rfl⟩
      rw [hj, ← hHH]
      simp [h2, h3, h7, h8, h9, h10, -lenA, lenA_listA, hla]
      refine awp_loop_t (γ := At) (fun u t h => (u.i ≤ R.length) ∧ ((u.o = none ↔ pickK R (s + 1) u.i = []) ∧ FreshO HH u.o) ∧ t 2 = .bool jb ∧ t 3 = .ptr b3 0 ∧ t 7 = natsA l ∧ t 9 = ownV o (nextF r n joint s).length 1 ∧ t 10 = .int .i64 ((s + 1 : Nat) : Int) ∧ t 8 = .sl R.length (R.map fun x : Nat => AV.int .i64 (x : Int)) ∧ t 11 = ownV u.o (pickK R (s + 1) u.i).length 1 ∧ t 12 = .int .i64 u.i ∧ h = HH.updO u.o ((pickK R (s + 1) u.i).map fun x : Nat => AV.int .i64 (x : Int))) (fun u => R.length - u.i) (⟨0, none⟩) (turnA_self (by simp [h2, h3, h7, h8, h9, h10, hla, pickK])) ?_
      rintro u t hx ⟨hu, hv, h2, h3, h7, h9, h10, h8, h11, h12, ex⟩
      rw [ex]
      clear ex
      obtain ⟨k, p⟩ := u
      simp only at h2 h3 h7 h9 h10 h8 h11 h12 hu hv
      obtain ⟨hv1, hv2⟩ := hv
      by_cases huk : k < R.length
      · have hwk : IntKind.i64.wrap ((k : Int) + 1) = (k : Int) + 1 := wrap_i64 (by omega) (by omega)
        have hbv := bit_val2 s (by omega) k (by omega)
        have hk64 : IntKind.u64.wrap (k : Int) = k := wrap_u64 (by omega) (by omega)
        have hkn : ¬ ((k : Int) < 0) := by omega
        have hsucc := pickK_succ R (s + 1) k
        have hkl := pickK_len R (s + 1) k
        have hgd : R.getD k 0 = R[k] := by simp [huk]
        rw [hgd] at hsucc
        obtain ⟨i, hi⟩ : ∃ i, i = R[k] := ⟨_, rfl⟩
        have hi' : R[k]'huk = i := hi.symm
        rw [hi'] at hsucc
        by_cases hbit : bitB (s + 1) k = true
        · rw [if_pos hbit] at hbv hsucc
          simp [h2, h3, h7, h9, h10, h8, h11, h12, hla, huk, hi', hk64, hkn, hbv]
          intro b1 hb1
          simp at hb1
          obtain ⟨z1, z2⟩ : ¬ p = some b1 ∧ Fresh HH b1 := hb1
          simp [h2, h3, h7, h9, h10, h8, h11, h12, z1, z2]
          refine appendA_updO (by omega) (by omega) (by simpa using hv1.1) (by simp) (by simp) (by simp [z1, z2, hv2]) fun b' hb' => ?_
          obtain ⟨z3, z3', z4⟩ : ¬ b' = b1 ∧ ¬ b1 = b' ∧ Fresh HH b' := by simpa [z1, z2] using hb'
          simp [h2, h3, h7, h9, h10, h8, h11, h12, z1, z2, z3, z3', z4]
          refine turnA_to (HH.updO (some b') ((pickK R (s + 1) (k + 1)).map fun x : Nat => AV.int .i64 (x : Int))) ?_ ⟨⟨k + 1, some b'⟩, by simp only; omega, by simp only; omega, ⟨by simp [hsucc], z4⟩, by simp [h2, h3, h7, h9, h10, h8, h11, h12, hwk, hsucc]⟩
          rw [hsucc]
          simp
          exact Drop.both (Drop.new (Drop.refl _) (by simp [z2]))
        · rw [if_neg hbit] at hbv hsucc
          rw [List.append_nil] at hsucc
          simp [h2, h3, h7, h9, h10, h8, h11, h12, hla, huk, hi', hk64, hkn, hbv]
          exact turnA_self ⟨⟨k + 1, p⟩, by simp only; omega, by simp only; omega, ⟨by simp only; rw [hsucc]; exact hv1, hv2⟩, by simp [h2, h3, h7, h9, h10, h8, h11, h12, hwk, hsucc]⟩
      · have hkE : k = R.length := by omega
        simp [h2, h3, h7, h9, h10, h8, h11, h12, hla, huk]
        rw [hkE, hps] at hv1 ⊢
        cases p with
        | none => exact absurd (hv1.1 rfl) hpsn
        | some bb =>
          rw [updO_some]
          refine turnA_slotN 11 bb (pickS R (s + 1)) (by simp [h2, h3, h7, h9, h10, h8, h11, h12, hkE, hps]) hv2 ?_
          simp [h2, h3, h7, h9, h10, h8, h11, h12]
          refine awp_draw_text (by kernel_rfl) [60, 61] [(.fn (.func 25) [] [], [.agg [.int .i64 r.m, .int .i64 r.c, rowsA r.next], natsA l, natsA (pickS R (s + 1))], natsA (stepF r l (pickS R (s + 1)))),
            (.fn (.func 24) [] [], [.agg [.int .i64 r.m, .int .i64 r.c, rowsA r.next], natsA (stepF r l (pickS R (s + 1)))], .int .i64 (numF r.c (stepF r l (pickS R (s + 1))) : Nat))] (by kernel_rfl) (by kernel_rfl) (by simp; exact ⟨PureV.of c3, PureV.of c4⟩) ?_
          have g3 : ∀ off, cellsAt HH b3 off = some (([.int .i64 r.m, .int .i64 r.c, rowsA r.next] : List AV).drop off) := by intro off; rw [hHH]; simp [ho2]
          have hnl := nlen s
          simp [h2, h3, h7, h9, h10, h8, h11, h12, g3, gamGet_here, gamGet_cons]
          rw [hHH]
          intro b1 hb1
          obtain ⟨x1, x2, x3⟩ : ¬ o = some b1 ∧ ¬ b1 = b3 ∧ ¬ b3 = b1 := by simpa using hb1
          simp [h2, h3, h7, h9, h10, h8, h11, h12, x1, x2, x3]
          refine appendA_updO (by omega) (by omega) (by simpa using ho1.1) (by simp) (by simp) (by simp [x1, x2, x3, ho2]) fun b' hb' => ?_
          obtain ⟨x4, x4', x5, x6⟩ : ¬ b' = b1 ∧ ¬ b1 = b' ∧ ¬ b' = b3 ∧ ¬ b3 = b' := by simpa [x1, x2, x3, ho2] using hb'
          simp [h2, h3, h7, h9, h10, h8, h11, h12, x1, x2, x3, x4, x4', x5, x6]
          refine turnA_to ((AHeap.empty.upd b3 (.cells [.int .i64 r.m, .int .i64 r.c, rowsA r.next])).updO (some b') ((nextF r n joint (s + 1)).map fun x : Nat => AV.int .i64 (x : Int))) ?_ ⟨⟨s + 1, some b'⟩, by simp only; omega, by simp only; omega, ⟨by simp [nsuccs], by simp [x5]⟩, by simp [h2, h3, h7, h9, h10, h8, h11, h12, hj, hla, hws, nsuccs]⟩
          rw [nsuccs]
          simp
          exact Drop.both (Drop.new (Drop.refl _) (by simp [x1, x2, x3]))
    · have hak := hand.2 hk
      rw [if_pos (by rw [hk]; simp)] at nsuccs
      obtain ⟨HH, hHH⟩ : ∃ HH, HH = (AHeap.empty.upd b3 (.cells [.int .i64 r.m, .int .i64 r.c, rowsA r.next])).updO o ((nextF r n joint s).map fun x : Nat => AV.int .i64 (x : Int)) := ⟨_, rfl⟩
      rw [hj, ← hHH]
      simp [h2, h3, h7, h8, h9, h10, -lenA, lenA_listA, hla, hs2, hak]
      refine awp_loop_t (γ := At) (fun u t h => (u.i ≤ R.length) ∧ ((u.o = none ↔ pickK R (s + 1) u.i = []) ∧ FreshO HH u.o) ∧ t 2 = .bool jb ∧ t 3 = .ptr b3 0 ∧ t 7 = natsA l ∧ t 9 = ownV o (nextF r n joint s).length 1 ∧ t 10 = .int .i64 ((s + 1 : Nat) : Int) ∧ t 8 = .sl R.length (R.map fun x : Nat => AV.int .i64 (x : Int)) ∧ t 11 = ownV u.o (pickK R (s + 1) u.i).length 1 ∧ t 12 = .int .i64 u.i ∧ h = HH.updO u.o ((pickK R (s + 1) u.i).map fun x : Nat => AV.int .i64 (x : Int))) (fun u => R.length - u.i) (⟨0, none⟩) (turnA_self (by simp [h2, h3, h7, h8, h9, h10, hla, pickK])) ?_
      rintro u t hx ⟨hu, hv, h2, h3, h7, h9, h10, h8, h11, h12, ex⟩
      rw [ex]
      clear ex
      obtain ⟨k, p⟩ := u
      simp only at h2 h3 h7 h9 h10 h8 h11 h12 hu hv
      obtain ⟨hv1, hv2⟩ := hv
      by_cases huk : k < R.length
      · have hwk : IntKind.i64.wrap ((k : Int) + 1) = (k : Int) + 1 := wrap_i64 (by omega) (by omega)
        have hbv := bit_val2 s (by omega) k (by omega)
        have hk64 : IntKind.u64.wrap (k : Int) = k := wrap_u64 (by omega) (by omega)
        have hkn : ¬ ((k : Int) < 0) := by omega
        have hsucc := pickK_succ R (s + 1) k
        have hkl := pickK_len R (s + 1) k
        have hgd : R.getD k 0 = R[k] := by simp [huk]
        rw [hgd] at hsucc
        obtain ⟨i, hi⟩ : ∃ i, i = R[k] := ⟨_, rfl⟩
        have hi' : R[k]'huk = i := hi.symm
        rw [hi'] at hsucc
        by_cases hbit : bitB (s + 1) k = true
        · rw [if_pos hbit] at hbv hsucc
          simp [h2, h3, h7, h9, h10, h8, h11, h12, hla, huk, hi', hk64, hkn, hbv]
          intro b1 hb1
          simp at hb1
          obtain ⟨z1, z2⟩ : ¬ p = some b1 ∧ Fresh HH b1 := hb1
          simp [h2, h3, h7, h9, h10, h8, h11, h12, z1, z2]
          refine appendA_updO (by omega) (by omega) (by simpa using hv1.1) (by simp) (by simp) (by simp [z1, z2, hv2]) fun b' hb' => ?_
          obtain ⟨z3, z3', z4⟩ : ¬ b' = b1 ∧ ¬ b1 = b' ∧ Fresh HH b' := by simpa [z1, z2] using hb'
          simp [h2, h3, h7, h9, h10, h8, h11, h12, z1, z2, z3, z3', z4]
          refine turnA_to (HH.updO (some b') ((pickK R (s + 1) (k + 1)).map fun x : Nat => AV.int .i64 (x : Int))) ?_ ⟨⟨k + 1, some b'⟩, by simp only; omega, by simp only; omega, ⟨by simp [hsucc], z4⟩, by simp [h2, h3, h7, h9, h10, h8, h11, h12, hwk, hsucc]⟩
          rw [hsucc]
          simp
          exact Drop.both (Drop.new (Drop.refl _) (by simp [z2]))
        · rw [if_neg hbit] at hbv hsucc
          rw [List.append_nil] at hsucc
          simp [h2, h3, h7, h9, h10, h8, h11, h12, hla, huk, hi', hk64, hkn, hbv]
          exact turnA_self ⟨⟨k + 1, p⟩, by simp only; omega, by simp only; omega, ⟨by simp only; rw [hsucc]; exact hv1, hv2⟩, by simp [h2, h3, h7, h9, h10, h8, h11, h12, hwk, hsucc]⟩
      · have hkE : k = R.length := by omega
        simp [h2, h3, h7, h9, h10, h8, h11, h12, hla, huk]
        rw [hkE, hps] at hv1 ⊢
        cases p with
        | none => exact absurd (hv1.1 rfl) hpsn
        | some bb =>
          rw [updO_some]
          refine turnA_slotN 11 bb (pickS R (s + 1)) (by simp [h2, h3, h7, h9, h10, h8, h11, h12, hkE, hps]) hv2 ?_
          simp [h2, h3, h7, h9, h10, h8, h11, h12]
          refine awp_draw_text (by kernel_rfl) [60, 61] [(.fn (.func 25) [] [], [.agg [.int .i64 r.m, .int .i64 r.c, rowsA r.next], natsA l, natsA (pickS R (s + 1))], natsA (stepF r l (pickS R (s + 1)))),
            (.fn (.func 24) [] [], [.agg [.int .i64 r.m, .int .i64 r.c, rowsA r.next], natsA (stepF r l (pickS R (s + 1)))], .int .i64 (numF r.c (stepF r l (pickS R (s + 1))) : Nat))] (by kernel_rfl) (by kernel_rfl) (by simp; exact ⟨PureV.of c3, PureV.of c4⟩) ?_
          have g3 : ∀ off, cellsAt HH b3 off = some (([.int .i64 r.m, .int .i64 r.c, rowsA r.next] : List AV).drop off) := by intro off; rw [hHH]; simp [ho2]
          have hnl := nlen s
          simp [h2, h3, h7, h9, h10, h8, h11, h12, g3, gamGet_here, gamGet_cons]
          rw [hHH]
          intro b1 hb1
          obtain ⟨x1, x2, x3⟩ : ¬ o = some b1 ∧ ¬ b1 = b3 ∧ ¬ b3 = b1 := by simpa using hb1
          simp [h2, h3, h7, h9, h10, h8, h11, h12, x1, x2, x3]
          refine appendA_updO (by omega) (by omega) (by simpa using ho1.1) (by simp) (by simp) (by simp [x1, x2, x3, ho2]) fun b' hb' => ?_
          obtain ⟨x4, x4', x5, x6⟩ : ¬ b' = b1 ∧ ¬ b1 = b' ∧ ¬ b' = b3 ∧ ¬ b3 = b' := by simpa [x1, x2, x3, ho2] using hb'
          simp [h2, h3, h7, h9, h10, h8, h11, h12, x1, x2, x3, x4, x4', x5, x6]
          refine turnA_to ((AHeap.empty.upd b3 (.cells [.int .i64 r.m, .int .i64 r.c, rowsA r.next])).updO (some b') ((nextF r n joint (s + 1)).map fun x : Nat => AV.int .i64 (x : Int))) ?_ ⟨⟨s + 1, some b'⟩, by simp only; omega, by simp only; omega, ⟨by simp [nsuccs], by simp [x5]⟩, by simp [h2, h3, h7, h9, h10, h8, h11, h12, hj, hla, hws, nsuccs]⟩
          rw [nsuccs]
          simp
          exact Drop.both (Drop.new (Drop.refl _) (by simp [x1, x2, x3]))
  · have hltI : ¬ ((s : Int) + 1) < (T : Int) := by omega
    have hsE : s = T - 1 := by omega
    simp [h2, h3, h7, h8, h9, h10, -lenA, lenA_listA, hu64, hRi, pw2, hltI]
    subst hsE
    rw [hmv] at ho1 ⊢
    exact finA_list rfl ho1 rfl
theorem r_Next (r : Rul) (hr : r.ok) (n : Nat) (hn : n < r.size) (joint : Bool) : Pure Try.prog 38 [r.av, .int .i64 n, .bool joint] (listA (moveL r n joint)) := r_Next0 r hr n hn joint joint rfl
end Go.Proofs

end

section
/-
  Ring: the reference's Check and IsRank; lists looked through.
-/
namespace Go.Proofs
open Go Go.AH
set_option maxRecDepth 10000
set_option maxHeartbeats 4000000

theorem r_Check (r : Rul) (hr : r.ok) : Pure Try.prog 44 [r.av] (.int .i64 0) := by
  refine pure_of (acalls_of Try.func44 rfl Try.call44 (by kernel_rfl) (by show _ ≤ (74 : Nat); simp) ?_)
  have q1 := hr.m2; have q2 := hr.m6; have q3 := hr.c2; have q4 := hr.c6; have q5 := hr.sz
  have cs := r_Size r.m r.c q1 q2 q3 q4 q5
  have hp := pw_pos (c := r.c) (by omega) r.m
  have hp0 : ¬ pw r.c r.m = 0 := by omega
  have hnl := hr.nl
  simp only [Rul.av]
  simp
  intro b1 hb1
  simp
  refine cs.use ?_
  simp [hp0, rowsA, hnl]
  obtain ⟨cc, hcc⟩ : ∃ cc, cc = r.c * r.c := ⟨_, rfl⟩
  obtain ⟨ccc, hccc⟩ : ∃ ccc, ccc = cc * r.c := ⟨_, rfl⟩
  have b36 : cc ≤ 6 * 6 := by rw [hcc]; exact Nat.mul_le_mul q4 q4
  have b216 : ccc ≤ 36 * 6 := by rw [hccc]; exact Nat.mul_le_mul b36 q4
  have y1 : IntKind.i64.wrap ((r.c : Int) * (r.c : Int)) = (cc : Int) := by rw [← Int.natCast_mul, ← hcc]; exact wrap_i64 (by omega) (by omega)
  have y2 : IntKind.i64.wrap ((cc : Int) * (r.c : Int)) = (ccc : Int) := by rw [← Int.natCast_mul, ← hccc]; exact wrap_i64 (by omega) (by omega)
  have hc0 : ¬ r.c = 0 := by omega
  refine awp_loop_g (γ := Nat) (fun i t h => (i ≤ r.m) ∧ t 1 = .ptr b1 0 ∧ t 3 = .int .i64 r.c ∧ t 4 = .int .i64 i ∧ h = AHeap.empty.upd b1 (.cells [.int .i64 r.m, .int .i64 r.c, .sl r.m (r.next.map intsA)])) (fun i => r.m - i) (0) (turnA_self (by simp)) ?_
  rintro i t h ⟨hi, h1, h3, h4, rfl⟩
  by_cases hlt : i < r.m
  · have hwi : IntKind.i64.wrap ((i : Int) + 1) = (i : Int) + 1 := wrap_i64 (by omega) (by omega)
    have hin : i < r.next.length := by omega
    have hrl : r.next[i].length = ccc := by rw [hr.rl _ (List.getElem_mem hin), hccc, hcc]
    obtain ⟨row, hrow⟩ : ∃ row, row = r.next[i] := ⟨_, rfl⟩
    have hrm : row ∈ r.next := by rw [hrow]; exact List.getElem_mem hin
    rw [← hrow] at hrl
    have hrow' : r.next[i]'hin = row := hrow.symm
    have hne : ∀ k (hk : k < row.length), ¬ row[k] = ((k / r.c % r.c : Nat) : Int) := fun k hk => by
      have := hr.ne i k
      rw [show r.next.getD i [] = row from by simp [hin, hrow], show row.getD k (-1) = row[k] from by simp [hk]] at this
      exact this
    simp [h1, h3, h4, hlt, hnl, intsA, hrow', y1, y2, hrl]
    refine awp_loop_g (γ := Nat) (fun k t h => (k ≤ ccc) ∧ t 1 = .ptr b1 0 ∧ t 3 = .int .i64 r.c ∧ t 4 = .int .i64 i ∧ t 5 = .int .i64 k ∧ h = AHeap.empty.upd b1 (.cells [.int .i64 r.m, .int .i64 r.c, .sl r.m (r.next.map intsA)])) (fun k => ccc - k) (0) (turnA_self (by simp [h1, h3, h4])) ?_
    rintro k t h ⟨hk, h1, h3, h4, h5, rfl⟩
    by_cases hltk : k < ccc
    · have hwk : IntKind.i64.wrap ((k : Int) + 1) = (k : Int) + 1 := wrap_i64 (by omega) (by omega)
      have hkr : k < row.length := by omega
      have x1 := hr.lo _ hrm _ (List.getElem_mem hkr)
      have x2 := hr.hi _ hrm _ (List.getElem_mem hkr)
      have x3 := hne k hkr
      obtain ⟨x, hx⟩ : ∃ x, x = row[k] := ⟨_, rfl⟩
      have hx' : row[k]'hkr = x := hx.symm
      rw [← hx] at x1 x2 x3
      have n1 : ¬ x < -1 := by omega
      have n2 : ¬ (r.c : Int) ≤ x := by omega
      have hdl : k / r.c ≤ k := Nat.div_le_self _ _
      obtain ⟨d, hd⟩ : ∃ d, d = k / r.c := ⟨_, rfl⟩
      rw [← hd] at hdl x3
      have v1 : (k : Int).tdiv (r.c : Int) = (d : Int) := by rw [Int.tdiv_eq_ediv_of_nonneg (by omega), hd]; rfl
      have v2 : IntKind.i64.wrap (d : Int) = d := wrap_i64 (by omega) (by omega)
      obtain ⟨e, he⟩ : ∃ e, e = d % r.c := ⟨_, rfl⟩
      rw [← he] at x3
      have v3 : (d : Int).tmod (r.c : Int) = (e : Int) := by rw [Int.tmod_eq_emod_of_nonneg (by omega), he]; rfl
      simp [h1, h3, h4, h5, hlt, hnl, intsA, hrow', y1, y2, hltk, hrl, hx', n1, n2, hc0, v1, v2, v3, x3]
      exact turnA_self ⟨k + 1, by omega, by omega, by simp [h1, h3, h4, h5, hwk]⟩
    · obtain rfl : k = ccc := by omega
      simp [h1, h3, h4, h5, y1, y2]
      exact turnA_self ⟨i + 1, by omega, by omega, by simp [h1, h3, h4, h5, hwi]⟩
  · obtain rfl : i = r.m := by omega
    simp [h1, h3, h4]
    exact finA_drop rfl

/-- Is a number in a list? -/
def hasF (l : List Int) (x : Int) : Bool := l.any fun y => decide (y = x)
theorem lenA_list {h : AHeap} (l : List Int) : lenA Try.prog h 25 (listI l) = some (.int .i64 (l.length : Int)) := by
  unfold listI
  split
  · next e => subst e; simp
  · simp [intsA]
theorem any_take_succ {p : Int → Bool} {l : List Int} {i : Nat} (hi : i < l.length) : (l.take (i + 1)).any p = ((l.take i).any p || p l[i]) := by
  rw [List.take_succ_eq_append_getElem hi, List.any_append]; simp
theorem any_of_get {p : Int → Bool} {l : List Int} {i : Nat} (hi : i < l.length) (h : p l[i] = true) : l.any p = true := List.any_eq_true.2 ⟨_, List.getElem_mem hi, h⟩
theorem lenA_ints {h : AHeap} (l : List Int) : lenA Try.prog h 25 (intsA l) = some (.int .i64 (l.length : Int)) := by simp [intsA]
theorem r_hasV (l : List Int) (hl : l.length ≤ 1000000) (x : Int) (v : AV) (hv : v = listI l ∨ v = intsA l) : Pure Try.prog 70 [v, .int .i64 x] (.bool (hasF l x)) := by
  refine pure_of (acalls_of Try.func70 rfl Try.call70 (by kernel_rfl) (by show _ ≤ (18 : Nat); simp) ?_)
  have hlv : ∀ h, lenA Try.prog h 25 v = some (.int .i64 (l.length : Int)) := by
    intro h
    rcases hv with rfl | rfl
    · exact lenA_list l
    · exact lenA_ints l
  have hfit : v.fit = true := by rcases hv with rfl | rfl <;> simp
  have hone : v.one = true := by rcases hv with rfl | rfl <;> simp
  simp
  refine awp_loop_g (γ := Nat) (fun i t h => (i ≤ l.length ∧ hasF (l.take i) x = false) ∧ t 0 = v ∧ t 1 = .int .i64 x ∧ t 5 = .int .i64 i) (fun i => l.length - i) (0) (turnA_self (by simp [hasF])) ?_
  rintro i t h ⟨hi, h0, h1, h5⟩
  obtain ⟨hi, hf⟩ := hi
  by_cases hlt : i < l.length
  · have hwi : IntKind.i64.wrap ((i : Int) + 1) = (i : Int) + 1 := wrap_i64 (by omega) (by omega)
    have hne : ¬ l = [] := fun e => by rw [e] at hlt; simp at hlt
    obtain rfl : v = .sl l.length (l.map (.int .i64)) := by
      rcases hv with rfl | rfl
      · rw [listI_ne hne]; rfl
      · rfl
    simp [h0, h1, h5, hlt]
    refine condA_dec (fun e => ?_) fun e => ?_
    · simp [h0, h1, h5]
      exact finA_self (by rw [show hasF l x = true from any_of_get hlt (by simpa using e)])
    · simp [h0, h1, h5]
      exact turnA_self ⟨i + 1, by omega, ⟨by omega, by unfold hasF at hf ⊢; rw [any_take_succ hlt, hf]; simpa using e⟩, by simp [h0, h1, h5, hwi]⟩
  · have hie : i = l.length := by omega
    simp [h0, h1, h5, -lenA, hlv, hlt]
    rw [hie, List.take_length] at hf
    exact finA_self (by rw [show hasF l x = false from hf])
theorem r_has (l : List Int) (hl : l.length ≤ 1000000) (x : Int) : Pure Try.prog 70 [listI l, .int .i64 x] (.bool (hasF l x)) := r_hasV l hl x _ (.inl rfl)
theorem w_Index (l : List Int) (hl : l.length ≤ 1000000) (x : Int) : Pure Try.prog 79 [listI l, .int .i64 x] (.int .i64 (idxI l fun y => decide (y = x))) := by
  refine pure_of (acalls_of Try.func79 rfl Try.call79 (by kernel_rfl) (by show _ ≤ (19 : Nat); simp) ?_)
  simp [-lenA, lenA_list]
  refine awp_loop_g (γ := Nat) (fun i t h => (i ≤ l.length ∧ hasF (l.take i) x = false) ∧ t 0 = listI l ∧ t 1 = .int .i64 x ∧ t 7 = .int .i64 l.length ∧ t 8 = .int .i64 i) (fun i => l.length - i) (0) (turnA_self (by simp [hasF])) ?_
  rintro i t h ⟨hi, h0, h1, h7, h8⟩
  obtain ⟨hi, hf⟩ := hi
  by_cases hlt : i < l.length
  · have hwi : IntKind.i64.wrap ((i : Int) + 1) = (i : Int) + 1 := wrap_i64 (by omega) (by omega)
    have hne : ¬ l = [] := fun e => by rw [e] at hlt; simp at hlt
    rw [listI_ne hne, intsA] at *
    simp [h0, h1, h7, h8, hlt]
    refine condA_dec (fun e => ?_) fun e => ?_
    · simp [h0, h1, h7, h8]
      refine finA_self ?_
      have h1' : (l.any fun y => decide (y = x)) = true := any_of_get hlt (by simpa using e.symm)
      have h2 : (l.findIdx fun y => decide (y = x)) = i := by
        rw [List.findIdx_eq hlt]
        refine ⟨by simpa using e.symm, fun j hj => ?_⟩
        unfold hasF at hf
        rw [List.any_eq_false] at hf
        have := hf (l[j]) (List.mem_take_iff_getElem.2 ⟨j, by omega, rfl⟩)
        simpa using this
      rw [idxI, if_pos h1', h2]
    · simp [h0, h1, h7, h8]
      exact turnA_self ⟨i + 1, by omega, ⟨by omega, by unfold hasF at hf ⊢; rw [any_take_succ hlt, hf]; simpa using fun q => e q.symm⟩, by simp [h0, h1, h7, h8, hwi]⟩
  · have hie : i = l.length := by omega
    simp [h0, h1, h7, h8, hlt]
    rw [hie, List.take_length] at hf
    unfold hasF at hf
    exact finA_self (by rw [idxI, if_neg (by rw [hf]; simp)])
theorem w_Contains (l : List Int) (hl : l.length ≤ 1000000) (x : Int) : Pure Try.prog 68 [listI l, .int .i64 x] (.bool (hasF l x)) := by
  refine pure_of (acalls_of Try.func68 rfl Try.call68 (by kernel_rfl) (by show _ ≤ (9 : Nat); simp) ?_)
  have c1 := w_Index l hl x
  simp
  refine c1.use ?_
  simp
  refine finA_self ?_
  congr 1
  unfold idxI hasF
  by_cases h : (l.any fun y => decide (y = x)) = true
  · rw [if_pos h, h]; simp
  · rw [if_neg h]; simp only [Bool.not_eq_true] at h; rw [h]; decide
theorem foldl_snoc {α : Type} : ∀ (L g : List α), L.foldl (fun g a => g ++ [a]) g = g ++ L
  | [], g => by simp
  | a :: L, g => by rw [List.foldl_cons, foldl_snoc L]; simp
theorem runIt_snocs {α : Type} : ∀ (L g : List α), runIt (fun g a => g ++ [a]) (fun _ => true) g L = g ++ L
  | [], g => by simp [runIt]
  | a :: L, g => by rw [runIt, if_pos rfl, runIt_snocs L]; simp
theorem drop_updO {H' H : AHeap} {o : Option Nat} {cs : List AV} (d : Drop H' H) (ho : FreshO H o) : Drop (H'.updO o cs) H := by
  cases o with
  | none => exact d
  | some b => exact Drop.new d ho
theorem w_AppendSeq {S : AHeap → Prop} (hSu : ∀ h l c, S h → h l = none → S (h.upd l c)) {f : FuncId} {first caps : List AV} {L : List Nat} (hL : L.length ≤ 1000000) (it : IterH Try.prog S (.fn (.func f) first caps) (fun t : Nat => [.int .i64 t]) L true)
    (hone : (AV.fn (.func f) first caps).one = true) (H : AHeap) (hH : S H) : ACalls Try.prog 80 [.nilsl, .fn (.func f) first caps] H fun a h => a = listA L ∧ h = H := by
  refine acalls_of Try.func80 rfl Try.call80 (by kernel_rfl) (by show _ ≤ (13 : Nat); simp) ?_
  simp
  intro b2 hb2
  simp
  refine awp_iterH hSu (S := S) (by simp) it (fun (g : List Nat) h => ∃ o : Option Nat, (o = none ↔ g = []) ∧ ¬ o = some b2 ∧ FreshO H o ∧ h = (H.upd b2 (.cells [ownV o g.length 1])).updO o (g.map fun x : Nat => AV.int .i64 (x : Int))) ?_
    (fun g t => g ++ [t]) (fun _ => none) [] rfl ⟨none, by simp, by simp, by simp, by simp⟩ (by kernel_rfl) (by kernel_rfl) (by simp) (by intro a _; rfl) (.inl rfl) ?_ ?_ ?_
  · rintro g h ⟨o, _, ho2, ho3, rfl⟩
    have s1 : S (H.upd b2 (.cells [ownV o g.length 1])) := hSu _ _ _ hH hb2
    cases o with
    | none => exact s1
    | some b =>
      refine hSu _ _ _ s1 ?_
      have : ¬ b = b2 := fun e => ho2 (by rw [e])
      rw [AHeap.upd_ne this]
      exact ho3
  · rintro l i g a h ha hg0 _ ⟨o, ho1, ho2, ho3, rfl⟩
    rw [foldl_snoc, List.nil_append] at hg0
    have hgl : g.length ≤ 1000000 := by rw [hg0]; simp; omega
    simp [putsA, ho2]
    intro b1 hb1
    obtain ⟨x1, x2, x3, x4⟩ : ¬ o = some b1 ∧ ¬ b1 = b2 ∧ ¬ b2 = b1 ∧ Fresh H b1 := by simpa using hb1
    simp [x1, x2, x3, ho2]
    refine appendA_updO (by omega) (by omega) (by simpa using ho1.1) (by simp) (by simp) (by simp [x1, x2, x3, x4, ho2, ho3]) fun b' hb' => ?_
    obtain ⟨y1, y2, y3, y4, y5⟩ : ¬ b' = b1 ∧ ¬ b1 = b' ∧ ¬ b' = b2 ∧ ¬ b2 = b' ∧ Fresh H b' := by simpa [x1, x2, x3, ho2] using hb'
    simp [x1, x2, x3, y1, y2, y3, y4]
    refine ⟨(H.upd b2 (.cells [.osl b' 0 (g.length + 1) 1])).updO (some b') ((g ++ [a]).map fun x : Nat => AV.int .i64 (x : Int)), ?_, some b', by simp, by simp [y3], y5, by simp⟩
    simp
    exact Drop.both (Drop.new (Drop.refl _) (by simp [x2, x3, x4]))
  · intro g e he; cases he
  · rintro h ⟨o, ho1, ho2, ho3, rfl⟩
    have hgo : (fun g : List Nat => ((none : Option Exit)).isNone) = fun _ => true := rfl
    rw [hgo] at ho1 ⊢
    rw [runIt_snocs, List.nil_append] at ho1 ⊢
    simp [ho2]
    refine finA_to 1 H (drop_updO (Drop.new (Drop.refl _) hb2) ho3) ⟨?_, rfl⟩
    exact frz_own rfl ho1 ho3
end Go.Proofs

end

section
/-
  Ring: IsRound.
-/
namespace Go.Proofs
open Go Go.AH
set_option maxRecDepth 10000
set_option maxHeartbeats 4000000

theorem w_Collect {S : AHeap → Prop} (hSu : ∀ h l c, S h → h l = none → S (h.upd l c)) {f : FuncId} {first caps : List AV} {L : List Nat} (hL : L.length ≤ 1000000) (it : IterH Try.prog S (.fn (.func f) first caps) (fun t : Nat => [.int .i64 t]) L true)
    (hone : (AV.fn (.func f) first caps).one = true) (H : AHeap) (hH : S H) : ACalls Try.prog 69 [.fn (.func f) first caps] H fun a h => a = listA L ∧ h = H := by
  refine acalls_of Try.func69 rfl Try.call69 (by kernel_rfl) (by show _ ≤ (5 : Nat); simp) ?_
  have c1 := w_AppendSeq hSu hL it hone H hH
  simp
  refine c1.use ?_
  simp
  exact finA_self ⟨rfl, rfl⟩
def seenE (l : List Int) : List (AV × AV) := l.map fun x => (.int .i64 x, .bool true)
theorem seen_get (x : Int) : ∀ l : List Int, mapGet (seenE l) (.int .i64 x) = if hasF l x = true then some (.bool true) else none
  | [] => rfl
  | y :: l => by
    have ih := seen_get x l
    unfold seenE hasF at ih ⊢
    simp only [List.map_cons, mapGet, List.any_cons]
    by_cases e : y = x
    · subst e; simp
    · have e1 : ¬ AV.int .i64 y = AV.int .i64 x := fun q => by cases q; exact e rfl
      rw [if_neg e1, ih]; simp [e]
theorem seen_set {x : Int} {l : List Int} (h : hasF l x = false) : mapSet (seenE l) (.int .i64 x) (.bool true) = seenE (l ++ [x]) := by
  have := seen_get x l
  rw [if_neg (by rw [h]; simp)] at this
  rw [mapSet_none this]
  simp [seenE]

/-- The moves' list, as whole numbers. -/
def moveI (r : Rul) (n : Nat) (joint : Bool) : List Int := (moveL r n joint).map fun x : Nat => (x : Int)
def okAt (r : Rul) (B : List Int) (i : Nat) : Bool := decide (0 ≤ B.getD i 0) && decide (B.getD i 0 < r.size) && !hasF (B.take i) (B.getD i 0) && !goodF r (B.getD i 0).toNat
def nextAt (r : Rul) (B : List Int) (joint : Bool) (i : Nat) : Bool := hasF (moveI r (B.getD i 0).toNat joint) (B.getD ((i + 1) % B.length) 0)
/-- Are the configurations a way round? -/
def isRoundF (r : Rul) (B : List Int) (joint : Bool) : Bool := decide (2 ≤ B.length) && (List.range B.length).all fun i => okAt r B i && nextAt r B joint i
def roundOn (r : Rul) (B : List Int) (joint : Bool) (n : Nat) : Bool := (List.range n).all fun i => okAt r B i && nextAt r B joint i
theorem roundOn_succ (r : Rul) (B : List Int) (joint : Bool) (n : Nat) : roundOn r B joint (n + 1) = (roundOn r B joint n && (okAt r B n && nextAt r B joint n)) := by
  unfold roundOn
  rw [List.range_succ, List.all_append]; simp
theorem roundOn_cut {r : Rul} {B : List Int} {joint : Bool} {n : Nat} (hn : n < B.length) (h : (okAt r B n && nextAt r B joint n) = false) : isRoundF r B joint = false := by
  unfold isRoundF
  rw [show ((List.range B.length).all fun i => okAt r B i && nextAt r B joint i) = false from by rw [List.all_eq_false]; exact ⟨n, List.mem_range.2 hn, by rw [h]; simp⟩]
  simp
theorem iter_moves (r : Rul) (hr : r.ok) (joint : Bool) (b n : Nat) (hn : n < r.size) : IterH Try.prog (JAt r joint b) (mvFn joint b n) (fun t : Nat => [.int .i64 t]) (moveL r n joint) true := by
  cases joint with
  | false => exact it_single r hr false b n hn
  | true => exact it_joint r hr true b n hn
theorem moveL_len (r : Rul) (hr : r.ok) (n : Nat) (joint : Bool) : (moveL r n joint).length ≤ 64 := by
  have h1 := readyF_len0 r (ofF r.c r.m n)
  have h2 := hr.m6
  have h3 := (pow_le64 (readyF r (ofF r.c r.m n)).length (by omega)).1
  unfold moveL
  split
  · simp [jointF]; omega
  · simp [succF]; omega

theorem w_IsRound (r : Rul) (hr : r.ok) (B : List Int) (hB : B.length ≤ 1000000) (joint : Bool) : Pure Try.prog 35 [r.av, listI B, .bool joint] (.bool (isRoundF r B joint)) := by
  refine pure_of (acalls_of Try.func35 rfl Try.call35 (by kernel_rfl) (by show _ ≤ (72 : Nat); simp) ?_)
  have q1 := hr.m2; have q2 := hr.m6; have q3 := hr.c2; have q4 := hr.c6; have q5 := hr.sz
  have cc := w_Check r hr
  have hav : r.av = .agg [.int .i64 r.m, .int .i64 r.c, rowsA r.next] := rfl
  rw [hav] at cc ⊢
  simp
  intro b3 hb3
  simp
  refine cc.use ?_
  simp [-lenA, lenA_list]
  by_cases hlen : 2 ≤ B.length
  · have hne : ¬ B = [] := fun e => by rw [e] at hlen; simp at hlen
    have hl2 : ¬ (B.length : Int) < 2 := by omega
    have cn := newJudge_at r hr joint (AHeap.empty.upd b3 (.cells [.int .i64 r.m, .int .i64 r.c, rowsA r.next]))
    rw [hav] at cn
    simp [hl2]
    refine ACalls.mono cn ?_
    rintro _ _ ⟨bj, rfl, rfl, hbj⟩
    obtain ⟨H0, hH0⟩ : ∃ H0, H0 = ((AHeap.empty.upd b3 (.cells [.int .i64 r.m, .int .i64 r.c, rowsA r.next])).upd bj (.cells (jCells r joint bj))) := ⟨_, rfl⟩
    have hj0 : JAt r joint bj H0 := by rw [hH0]; exact JAt_new r joint bj _
    rw [← hH0]
    simp
    intro bm hbm
    simp [listI_ne hne, intsA]
    refine awp_loop_g (γ := Nat) (fun i t h => (i ≤ B.length) ∧ (roundOn r B joint i = true) ∧ t 1 = .sl B.length (B.map (.int .i64)) ∧ t 7 = .ptr bj 0 ∧ t 8 = .map bm ∧ t 24 = .sl B.length (B.map (.int .i64)) ∧ t 25 = .int .i64 B.length ∧ t 26 = .int .i64 i ∧ h = H0.upd bm (.map (.one (.i .i64)) (seenE (B.take i)))) (fun i => B.length - i) (0) (turnA_self (by simp [roundOn, seenE])) ?_
    rintro i t hx ⟨hi, hal, h1, h7, h8, h24, h25, h26, ex⟩
    rw [ex]
    clear ex
    by_cases hlt : i < B.length
    · have hwi : IntKind.i64.wrap ((i : Int) + 1) = (i : Int) + 1 := wrap_i64 (by omega) (by omega)
      obtain ⟨x, hx⟩ : ∃ x, x = B[i] := ⟨_, rfl⟩
      have hx' : B[i]'hlt = x := hx.symm
      have hxg : B.getD i 0 = x := by rw [hx]; simp [hlt]
      have hcut := fun q => roundOn_cut (r := r) (B := B) (joint := joint) hlt q
      have hsucc := roundOn_succ r B joint i
      rw [hal, Bool.true_and] at hsucc
      simp only [okAt, nextAt, hxg] at hcut hsucc
      have hjm : JAt r joint bj (H0.upd bm (.map (.one (.i .i64)) (seenE (B.take i)))) := hj0.upd hbm
      have gj0 : ∀ off, cellsAt H0 bj off = some ((jCells r joint bj).drop off) := hj0
      have nj := ne_fresh (hj0 0) hbm
      by_cases x0 : x < 0
      · have hF := hcut (by simp [show ¬ 0 ≤ x from by omega])
        simp [h1, h7, h8, h24, h25, h26, hlt, hx', x0]
        exact finA_drop (by rw [hF])
      · by_cases x1 : (r.size : Int) ≤ x
        · have hF := hcut (by simp [show ¬ x < r.size from by omega])
          simp [h1, h7, h8, h24, h25, h26, hlt, hx', x0, x1, gj0, nj, jCells]
          exact finA_drop (by rw [hF])
        · obtain ⟨n, rfl⟩ : ∃ n : Nat, x = (n : Int) := ⟨x.toNat, by omega⟩
          have hn : n < r.size := by omega
          have x1' : ¬ r.size ≤ n := by omega
          have n0 : ¬ (n : Int) < 0 := by omega
          rw [show (n : Int).toNat = n from by omega] at hcut hsucc
          have hsg := seen_get n (B.take i)
          cases hs : hasF (B.take i) n with
          | true =>
            have hF := hcut (by rw [hs]; simp)
            rw [if_pos hs] at hsg
            simp [h1, h7, h8, h24, h25, h26, hlt, hx', n0, x1', gj0, nj, jCells, hsg]
            exact finA_drop (by rw [hF])
          | false =>
            have hss := seen_set hs
            rw [if_neg (by rw [hs]; simp)] at hsg
            have cg := w_good r hr joint bj _ hjm n hn
            simp [h1, h7, h8, h24, h25, h26, hlt, hx', n0, x1', gj0, nj, jCells, hsg]
            refine cg.use ?_
            simp [h1, h7, h8, h24, h25, h26]
            cases hg : goodF r n with
            | true =>
              have hF := hcut (by rw [hg]; simp)
              simp [h1, h7, h8, h24, h25, h26]
              exact finA_drop (by rw [hF])
            | false =>
              obtain ⟨k, hk⟩ : ∃ k, k = (i + 1) % B.length := ⟨_, rfl⟩
              have hkl : k < B.length := by rw [hk]; exact Nat.mod_lt _ (by omega)
              have vm : ((i : Int) + 1).tmod (B.length : Int) = (k : Int) := by rw [Int.tmod_eq_emod_of_nonneg (by omega), hk]; rfl
              have hkg : B.getD k 0 = B[k] := by simp [hkl]
              rw [← hk, hkg] at hcut hsucc
              obtain ⟨y, hy⟩ : ∃ y, y = B[k] := ⟨_, rfl⟩
              have hy' : B[k]'hkl = y := hy.symm
              rw [hy'] at hcut hsucc
              have hts : B.take i ++ [(n : Int)] = B.take (i + 1) := by rw [List.take_succ_eq_append_getElem hlt, hx']
              rw [hts] at hss
              have hjm2 : JAt r joint bj (H0.upd bm (.map (.one (.i .i64)) (seenE (B.take (i + 1))))) := hj0.upd hbm
              have cm := w_moves joint bj (H0.upd bm (.map (.one (.i .i64)) (seenE (B.take (i + 1))))) hjm2.ne n
              have hml := moveL_len r hr n joint
              have cl := w_Collect (fun _ _ _ q ql => JAt.upd q ql) (by omega) (iter_moves r hr joint bj n hn) (by simp) _ hjm2
              have ct := w_Contains (moveI r n joint) (by simp [moveI]; omega) y
              have hla : listI (moveI r n joint) = listA (moveL r n joint) := (listA_I _).symm
              rw [hla] at ct
              simp [h1, h7, h8, h24, h25, h26, hss, hne, hwi, vm, hkl, hy', gj0, nj, jCells]
              refine ACallV.mono cm ?_
              rintro _ _ ⟨rfl, rfl⟩
              simp [h1, h7, h8, h24, h25, h26]
              refine ACalls.mono cl ?_
              rintro _ _ ⟨rfl, rfl⟩
              simp [h1, h7, h8, h24, h25, h26]
              refine ct.use ?_
              simp [h1, h7, h8, h24, h25, h26]
              cases hq : hasF (moveI r n joint) y with
              | true =>
                simp [h1, h7, h8, h24, h25, h26]
                exact turnA_self ⟨i + 1, by omega, by omega, by rw [hsucc, hs, hg, hq]; simp; omega, by simp [h1, h7, h8, h24, h25, h26, hwi]⟩
              | false =>
                have hF := hcut (by rw [hq]; simp)
                simp [h1, h7, h8, h24, h25, h26]
                exact finA_drop (by rw [hF])
    · have hie : i = B.length := by omega
      simp [h1, h7, h8, h24, h25, h26, hlt]
      refine finA_drop ?_
      rw [hie] at hal
      unfold roundOn at hal
      simp [isRoundF, hlen, hal]
  · have hl2 : (B.length : Int) < 2 := by omega
    simp [hl2]
    exact finA_drop (by simp [isRoundF, hlen])
end Go.Proofs

end
