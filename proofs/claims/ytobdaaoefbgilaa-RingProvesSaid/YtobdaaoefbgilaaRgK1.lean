/-
  Ring: the reference's Next, IsGood.
-/
import Derived.Test.YtobdaaoefbgilaaRgJ5
set_option linter.unusedSimpArgs false
set_option linter.unusedVariables false
set_option linter.unusedSectionVars false
namespace Go.Proofs
open Go Go.AH
set_option maxRecDepth 10000
set_option maxHeartbeats 4000000

theorem r_IsGood (r : Rul) (hr : r.ok) (n : Nat) (hn : n < r.size) : Pure Try.prog 41 [r.av, .int .i64 n] (.bool (goodF r n)) := by
  refine pure_of (acalls_of Try.func41 rfl Try.call41 (by kernel_rfl) (by show _ ≤ (12 : Nat); simp) ?_)
  have c1 := r_Of r hr n hn
  have c2 := r_Ready r hr (ofF r.c r.m n) (of_cfg hr n)
  simp only [Rul.av] at c1 c2 ⊢
  simp
  intro b hb
  simp
  refine awp_draw_text (by kernel_rfl) [8, 9] [(.fn (.func 28) [] [], [.agg [.int .i64 r.m, .int .i64 r.c, rowsA r.next], .int .i64 n], natsA (ofF r.c r.m n)),
    (.fn (.func 23) [] [], [.agg [.int .i64 r.m, .int .i64 r.c, rowsA r.next], natsA (ofF r.c r.m n)], listA (readyF r (ofF r.c r.m n)))] (by kernel_rfl) (by kernel_rfl) (by simp; exact ⟨PureV.of c1, PureV.of c2⟩) ?_
  simp [gamGet_here, gamGet_cons, -lenA, lenA_listA]
  refine finA_drop ?_
  unfold goodF
  simp
  omega

def pow2B (s : Nat) : Bool := (s + 1) &&& s == 0
/-- Where steps lead: the reference's order. -/
def nextF (r : Rul) (n : Nat) (joint : Bool) (T : Nat) : List Nat := ((List.range T).filter fun s => joint || pow2B s).map fun s => numF r.c (stepF r (ofF r.c r.m n) (pickS (readyF r (ofF r.c r.m n)) (s + 1)))
theorem nextF_succ (r : Rul) (n : Nat) (joint : Bool) (s : Nat) : nextF r n joint (s + 1) = nextF r n joint s ++ if (joint || pow2B s) = true then [numF r.c (stepF r (ofF r.c r.m n) (pickS (readyF r (ofF r.c r.m n)) (s + 1)))] else [] := by
  unfold nextF
  rw [List.range_succ, List.filter_append, List.map_append]
  congr 1
  by_cases h : (joint || pow2B s) = true
  · simp [h]
  · simp [h]
theorem nextF_true (r : Rul) (n : Nat) : nextF r n true (2 ^ (readyF r (ofF r.c r.m n)).length - 1) = jointF r n := by
  unfold nextF jointF
  rw [List.filter_eq_self.2 (by simp)]
theorem pow2_filter : ∀ len, len < 7 → (List.range (2 ^ len - 1)).filter pow2B = (List.range len).map fun k => 2 ^ k - 1 := by decide +kernel
theorem pickI_pow : ∀ len, len < 7 → ∀ k, k < len → pickI len (2 ^ k - 1 + 1) = [k] := by decide +kernel
theorem nextF_false (r : Rul) (hr : r.ok) (n : Nat) : nextF r n false (2 ^ (readyF r (ofF r.c r.m n)).length - 1) = succF r n := by
  unfold nextF succF
  have hl := readyF_len0 r (ofF r.c r.m n)
  have := hr.m6
  generalize hR : readyF r (ofF r.c r.m n) = R at hl ⊢
  have hf : (fun s => false || pow2B s) = pow2B := by funext s; simp
  rw [hf, pow2_filter R.length (by omega), List.map_map]
  refine List.ext_getElem (by simp) fun k h1 h2 => ?_
  have hk : k < R.length := by simpa using h1
  simp only [List.getElem_map, List.getElem_range, Function.comp]
  unfold pickS
  rw [pickI_pow R.length (by omega) k hk]
  simp [hk]
/-- What the reference's Next answers. -/
def moveL (r : Rul) (n : Nat) (joint : Bool) : List Nat := if joint = true then jointF r n else succF r n
theorem nextF_move (r : Rul) (hr : r.ok) (n : Nat) (joint : Bool) : nextF r n joint (2 ^ (readyF r (ofF r.c r.m n)).length - 1) = moveL r n joint := by
  cases joint
  · exact nextF_false r hr n
  · exact nextF_true r n
theorem bit_val2 : ∀ s : Nat, s < 64 → ∀ k : Nat, k < 6 → Int.tmod (Int.fdiv ((s : Int) + 1) (2 ^ min k IntKind.i64.bits)) 2 = if bitB (s + 1) k = true then 1 else 0 := by decide +kernel
theorem and_val : ∀ s : Nat, s < 64 → (IntKind.i64.wrap (((((s : Int) + 1) % 2 ^ IntKind.i64.bits).toNat &&& s % 2 ^ IntKind.i64.bits : Nat) : Int) = 0 ↔ pow2B s = true) := by decide +kernel
theorem nextF_len (r : Rul) (n : Nat) (joint : Bool) (T : Nat) : (nextF r n joint T).length ≤ T := by
  unfold nextF
  rw [List.length_map]
  exact Nat.le_trans (List.length_filter_le _ _) (by simp)

theorem r_Next0 (r : Rul) (hr : r.ok) (n : Nat) (hn : n < r.size) (joint jb : Bool) (hjb : jb = joint) : Pure Try.prog 38 [r.av, .int .i64 n, .bool jb] (listA (moveL r n joint)) := by
  refine pure_of (acalls_of Try.func38 rfl Try.call38 (by kernel_rfl) (by show _ ≤ (65 : Nat); simp) ?_)
  have q1 := hr.m2; have q2 := hr.m6; have q3 := hr.c2; have q4 := hr.c6; have q5 := hr.sz
  have hmv := nextF_move r hr n joint
  have nsucc := nextF_succ r n joint
  have nlen := nextF_len r n joint
  have cf := of_cfg hr n
  have c1 := r_Of r hr n hn
  have c2 := r_Ready r hr (ofF r.c r.m n) cf
  obtain ⟨l, hl⟩ : ∃ l, l = ofF r.c r.m n := ⟨_, rfl⟩
  rw [← hl] at c1 c2 cf hmv nsucc
  obtain ⟨R, hR⟩ : ∃ R, R = readyF r l := ⟨_, rfl⟩
  rw [← hR] at c2 hmv nsucc
  have hRl : R.length ≤ r.m := by rw [hR]; exact readyF_len0 r l
  have hRok : ∀ i ∈ R, i < r.m ∧ 0 ≤ takesF r l i := by rw [hR]; exact fun i hi => readyF_ok0 i hi
  obtain ⟨p64, pw2⟩ := pow_le64 R.length (by omega)
  obtain ⟨T, hT⟩ : ∃ T, T = 2 ^ R.length := ⟨_, rfl⟩
  rw [← hT] at p64 pw2 hmv
  have hTp : 0 < T := by rw [hT]; exact Nat.pow_pos (by omega)
  have hRi : ¬ ((R.length : Int) < 0) := by omega
  have hu64 : IntKind.u64.wrap (R.length : Int) = R.length := wrap_u64 (by omega) (by omega)
  simp only [Rul.av] at c1 c2 ⊢
  simp
  intro b3 hb3
  simp
  refine c1.use ?_
  simp
  refine c2.use ?_
  simp
  refine awp_loop_g (γ := At) (fun q t h => (q.i + 1 ≤ T) ∧ ((q.o = none ↔ nextF r n joint q.i = []) ∧ ¬ q.o = some b3) ∧ t 2 = .bool jb ∧ t 3 = .ptr b3 0 ∧ t 7 = natsA l ∧ t 8 = listA R ∧ t 9 = ownV q.o (nextF r n joint q.i).length 1 ∧ t 10 = .int .i64 ((q.i + 1 : Nat) : Int) ∧ h = (AHeap.empty.upd b3 (.cells [.int .i64 r.m, .int .i64 r.c, rowsA r.next])).updO q.o ((nextF r n joint q.i).map fun x : Nat => AV.int .i64 (x : Int))) (fun q => T - q.i) (⟨0, none⟩) (turnA_self (by simp [nextF]; omega)) ?_
  rintro q t h ⟨hs, ho, h2, h3, h7, h8, h9, h10, rfl⟩
  obtain ⟨s, o⟩ := q
  simp only at h2 h3 h7 h8 h9 h10 hs ho
  obtain ⟨ho1, ho2⟩ := ho
  by_cases hlt : s + 1 < T
  · have hltI : ((s : Int) + 1) < (T : Int) := by omega
    have hws : IntKind.i64.wrap ((s : Int) + 1 + 1) = (s : Int) + 1 + 1 := wrap_i64 (by omega) (by omega)
    have hand := and_val s (by omega)
    have hs2 : IntKind.i64.wrap (s : Int) = s := wrap_i64 (by omega) (by omega)
    have hRn : ¬ R = [] := fun e => by rw [e] at hT; simp at hT; omega
    have hla : listA R = .sl R.length (R.map fun x : Nat => AV.int .i64 (x : Int)) := by unfold listA; rw [if_neg hRn]; rfl
    have hcase : (jb = true ∧ (joint || pow2B s) = true) ∨ (jb = false ∧ pow2B s = true) ∨ (jb = false ∧ pow2B s = false) := by
      cases hp : pow2B s <;> cases joint <;> simp_all
    simp [h2, h3, h7, h8, h9, h10, -lenA, lenA_listA, hu64, hRi, pw2, hltI]
    have hpn := pickI_ne R.length (by omega) (s + 1) (by omega) (by omega) (by rw [← hT]; exact hlt)
    have hps : pickK R (s + 1) R.length = pickS R (s + 1) := rfl
    have hpsn : ¬ pickS R (s + 1) = [] := by unfold pickS; simpa using hpn
    have hms : ∀ i ∈ pickS R (s + 1), i < r.m ∧ 0 ≤ takesF r l i := fun i hi => hRok i (pickS_mem i hi)
    have c3 := r_Step r hr l cf (pickS R (s + 1)) hms (by have := pickK_len R (s + 1) R.length; rw [hps] at this; omega)
    have cf2 := step_cfg hr cf hms
    have c4 := r_Number r hr (stepF r l (pickS R (s + 1))) cf2
    simp only [Rul.av] at c3 c4
    have nsuccs := nsucc s
    rcases hcase with ⟨hj, hk⟩ | ⟨hj, hk⟩ | ⟨hj, hk⟩
    rotate_left 2
    · have hnk : ¬ IntKind.i64.wrap (((((s : Int) + 1) % 2 ^ IntKind.i64.bits).toNat &&& s % 2 ^ IntKind.i64.bits : Nat) : Int) = 0 := fun q => by rw [hand.1 q] at hk; cases hk
      have hk2 : (joint || pow2B s) = false := by rw [hk, ← hjb, hj]; rfl
      rw [if_neg (by rw [hk2]; simp), List.append_nil] at nsuccs
      rw [hj]
      simp [h2, h3, h7, h8, h9, h10, hj, hs2, hnk]
      exact turnA_self ⟨⟨s + 1, o⟩, by simp only; omega, by simp only; omega, ⟨by simp only; rw [nsuccs]; exact ho1, ho2⟩, by simp [h2, h3, h7, h8, h9, h10, hj, hws, nsuccs]⟩
    · rw [if_pos hk] at nsuccs
      obtain ⟨HH, hHH⟩ : ∃ HH, HH = (AHeap.empty.upd b3 (.cells [.int .i64 r.m, .int .i64 r.c, rowsA r.next])).updO o ((nextF r n joint s).map fun x : Nat => AV.int .i64 (x : Int)) := ⟨_, rfl⟩
      rw [hj, ← hHH]
      simp [h2, h3, h7, h8, h9, h10, -lenA, lenA_listA, hla]
      refine awp_loop_t (γ := At) (fun u t h => (u.i ≤ R.length) ∧ ((u.o = none ↔ pickK R (s + 1) u.i = []) ∧ FreshO HH u.o) ∧ t 2 = .bool jb ∧ t 3 = .ptr b3 0 ∧ t 7 = natsA l ∧ t 9 = ownV o (nextF r n joint s).length 1 ∧ t 10 = .int .i64 ((s + 1 : Nat) : Int) ∧ t 8 = .sl R.length (R.map fun x : Nat => AV.int .i64 (x : Int)) ∧ t 11 = ownV u.o (pickK R (s + 1) u.i).length 1 ∧ t 12 = .int .i64 u.i ∧ h = HH.updO u.o ((pickK R (s + 1) u.i).map fun x : Nat => AV.int .i64 (x : Int))) (fun u => R.length - u.i) (⟨0, none⟩) (turnA_self (by simp [h2, h3, h7, h8, h9, h10, hla, pickK])) ?_
      rintro u t hx ⟨hu, hv, h2, h3, h7, h9, h10, h8, h11, h12, ex⟩
      rw [ex]
      clear ex
      obtain ⟨k, p⟩ := u
      simp only at h2 h3 h7 h9 h10 h8 h11 h12 hu hv
      obtain ⟨hv1, hv2⟩ := hv
      by_cases huk : k < R.length
      · have hwk : IntKind.i64.wrap ((k : Int) + 1) = (k : Int) + 1 := wrap_i64 (by omega) (by omega)
        have hbv := bit_val2 s (by omega) k (by omega)
        have hk64 : IntKind.u64.wrap (k : Int) = k := wrap_u64 (by omega) (by omega)
        have hkn : ¬ ((k : Int) < 0) := by omega
        have hsucc := pickK_succ R (s + 1) k
        have hkl := pickK_len R (s + 1) k
        have hgd : R.getD k 0 = R[k] := by simp [huk]
        rw [hgd] at hsucc
        obtain ⟨i, hi⟩ : ∃ i, i = R[k] := ⟨_, rfl⟩
        have hi' : R[k]'huk = i := hi.symm
        rw [hi'] at hsucc
        by_cases hbit : bitB (s + 1) k = true
        · rw [if_pos hbit] at hbv hsucc
          simp [h2, h3, h7, h9, h10, h8, h11, h12, hla, huk, hi', hk64, hkn, hbv]
          intro b1 hb1
          simp at hb1
          obtain ⟨z1, z2⟩ : ¬ p = some b1 ∧ Fresh HH b1 := hb1
          simp [h2, h3, h7, h9, h10, h8, h11, h12, z1, z2]
          refine appendA_updO (by omega) (by omega) (by simpa using hv1.1) (by simp) (by simp) (by simp [z1, z2, hv2]) fun b' hb' => ?_
          obtain ⟨z3, z3', z4⟩ : ¬ b' = b1 ∧ ¬ b1 = b' ∧ Fresh HH b' := by simpa [z1, z2] using hb'
          simp [h2, h3, h7, h9, h10, h8, h11, h12, z1, z2, z3, z3', z4]
          refine turnA_to (HH.updO (some b') ((pickK R (s + 1) (k + 1)).map fun x : Nat => AV.int .i64 (x : Int))) ?_ ⟨⟨k + 1, some b'⟩, by simp only; omega, by simp only; omega, ⟨by simp [hsucc], z4⟩, by simp [h2, h3, h7, h9, h10, h8, h11, h12, hwk, hsucc]⟩
          rw [hsucc]
          simp
          exact Drop.both (Drop.new (Drop.refl _) (by simp [z2]))
        · rw [if_neg hbit] at hbv hsucc
          rw [List.append_nil] at hsucc
          simp [h2, h3, h7, h9, h10, h8, h11, h12, hla, huk, hi', hk64, hkn, hbv]
          exact turnA_self ⟨⟨k + 1, p⟩, by simp only; omega, by simp only; omega, ⟨by simp only; rw [hsucc]; exact hv1, hv2⟩, by simp [h2, h3, h7, h9, h10, h8, h11, h12, hwk, hsucc]⟩
      · have hkE : k = R.length := by omega
        simp [h2, h3, h7, h9, h10, h8, h11, h12, hla, huk]
        rw [hkE, hps] at hv1 ⊢
        cases p with
        | none => exact absurd (hv1.1 rfl) hpsn
        | some bb =>
          rw [updO_some]
          refine turnA_slotN 11 bb (pickS R (s + 1)) (by simp [h2, h3, h7, h9, h10, h8, h11, h12, hkE, hps]) hv2 ?_
          simp [h2, h3, h7, h9, h10, h8, h11, h12]
          refine awp_draw_text (by kernel_rfl) [60, 61] [(.fn (.func 25) [] [], [.agg [.int .i64 r.m, .int .i64 r.c, rowsA r.next], natsA l, natsA (pickS R (s + 1))], natsA (stepF r l (pickS R (s + 1)))),
            (.fn (.func 24) [] [], [.agg [.int .i64 r.m, .int .i64 r.c, rowsA r.next], natsA (stepF r l (pickS R (s + 1)))], .int .i64 (numF r.c (stepF r l (pickS R (s + 1))) : Nat))] (by kernel_rfl) (by kernel_rfl) (by simp; exact ⟨PureV.of c3, PureV.of c4⟩) ?_
          have g3 : ∀ off, cellsAt HH b3 off = some (([.int .i64 r.m, .int .i64 r.c, rowsA r.next] : List AV).drop off) := by intro off; rw [hHH]; simp [ho2]
          have hnl := nlen s
          simp [h2, h3, h7, h9, h10, h8, h11, h12, g3, gamGet_here, gamGet_cons]
          rw [hHH]
          intro b1 hb1
          obtain ⟨x1, x2, x3⟩ : ¬ o = some b1 ∧ ¬ b1 = b3 ∧ ¬ b3 = b1 := by simpa using hb1
          simp [h2, h3, h7, h9, h10, h8, h11, h12, x1, x2, x3]
          refine appendA_updO (by omega) (by omega) (by simpa using ho1.1) (by simp) (by simp) (by simp [x1, x2, x3, ho2]) fun b' hb' => ?_
          obtain ⟨x4, x4', x5, x6⟩ : ¬ b' = b1 ∧ ¬ b1 = b' ∧ ¬ b' = b3 ∧ ¬ b3 = b' := by simpa [x1, x2, x3, ho2] using hb'
          simp [h2, h3, h7, h9, h10, h8, h11, h12, x1, x2, x3, x4, x4', x5, x6]
          refine turnA_to ((AHeap.empty.upd b3 (.cells [.int .i64 r.m, .int .i64 r.c, rowsA r.next])).updO (some b') ((nextF r n joint (s + 1)).map fun x : Nat => AV.int .i64 (x : Int))) ?_ ⟨⟨s + 1, some b'⟩, by simp only; omega, by simp only; omega, ⟨by simp [nsuccs], by simp [x5]⟩, by simp [h2, h3, h7, h9, h10, h8, h11, h12, hj, hla, hws, nsuccs]⟩
          rw [nsuccs]
          simp
          exact Drop.both (Drop.new (Drop.refl _) (by simp [x1, x2, x3]))
    · have hak := hand.2 hk
      rw [if_pos (by rw [hk]; simp)] at nsuccs
      obtain ⟨HH, hHH⟩ : ∃ HH, HH = (AHeap.empty.upd b3 (.cells [.int .i64 r.m, .int .i64 r.c, rowsA r.next])).updO o ((nextF r n joint s).map fun x : Nat => AV.int .i64 (x : Int)) := ⟨_, rfl⟩
      rw [hj, ← hHH]
      simp [h2, h3, h7, h8, h9, h10, -lenA, lenA_listA, hla, hs2, hak]
      refine awp_loop_t (γ := At) (fun u t h => (u.i ≤ R.length) ∧ ((u.o = none ↔ pickK R (s + 1) u.i = []) ∧ FreshO HH u.o) ∧ t 2 = .bool jb ∧ t 3 = .ptr b3 0 ∧ t 7 = natsA l ∧ t 9 = ownV o (nextF r n joint s).length 1 ∧ t 10 = .int .i64 ((s + 1 : Nat) : Int) ∧ t 8 = .sl R.length (R.map fun x : Nat => AV.int .i64 (x : Int)) ∧ t 11 = ownV u.o (pickK R (s + 1) u.i).length 1 ∧ t 12 = .int .i64 u.i ∧ h = HH.updO u.o ((pickK R (s + 1) u.i).map fun x : Nat => AV.int .i64 (x : Int))) (fun u => R.length - u.i) (⟨0, none⟩) (turnA_self (by simp [h2, h3, h7, h8, h9, h10, hla, pickK])) ?_
      rintro u t hx ⟨hu, hv, h2, h3, h7, h9, h10, h8, h11, h12, ex⟩
      rw [ex]
      clear ex
      obtain ⟨k, p⟩ := u
      simp only at h2 h3 h7 h9 h10 h8 h11 h12 hu hv
      obtain ⟨hv1, hv2⟩ := hv
      by_cases huk : k < R.length
      · have hwk : IntKind.i64.wrap ((k : Int) + 1) = (k : Int) + 1 := wrap_i64 (by omega) (by omega)
        have hbv := bit_val2 s (by omega) k (by omega)
        have hk64 : IntKind.u64.wrap (k : Int) = k := wrap_u64 (by omega) (by omega)
        have hkn : ¬ ((k : Int) < 0) := by omega
        have hsucc := pickK_succ R (s + 1) k
        have hkl := pickK_len R (s + 1) k
        have hgd : R.getD k 0 = R[k] := by simp [huk]
        rw [hgd] at hsucc
        obtain ⟨i, hi⟩ : ∃ i, i = R[k] := ⟨_, rfl⟩
        have hi' : R[k]'huk = i := hi.symm
        rw [hi'] at hsucc
        by_cases hbit : bitB (s + 1) k = true
        · rw [if_pos hbit] at hbv hsucc
          simp [h2, h3, h7, h9, h10, h8, h11, h12, hla, huk, hi', hk64, hkn, hbv]
          intro b1 hb1
          simp at hb1
          obtain ⟨z1, z2⟩ : ¬ p = some b1 ∧ Fresh HH b1 := hb1
          simp [h2, h3, h7, h9, h10, h8, h11, h12, z1, z2]
          refine appendA_updO (by omega) (by omega) (by simpa using hv1.1) (by simp) (by simp) (by simp [z1, z2, hv2]) fun b' hb' => ?_
          obtain ⟨z3, z3', z4⟩ : ¬ b' = b1 ∧ ¬ b1 = b' ∧ Fresh HH b' := by simpa [z1, z2] using hb'
          simp [h2, h3, h7, h9, h10, h8, h11, h12, z1, z2, z3, z3', z4]
          refine turnA_to (HH.updO (some b') ((pickK R (s + 1) (k + 1)).map fun x : Nat => AV.int .i64 (x : Int))) ?_ ⟨⟨k + 1, some b'⟩, by simp only; omega, by simp only; omega, ⟨by simp [hsucc], z4⟩, by simp [h2, h3, h7, h9, h10, h8, h11, h12, hwk, hsucc]⟩
          rw [hsucc]
          simp
          exact Drop.both (Drop.new (Drop.refl _) (by simp [z2]))
        · rw [if_neg hbit] at hbv hsucc
          rw [List.append_nil] at hsucc
          simp [h2, h3, h7, h9, h10, h8, h11, h12, hla, huk, hi', hk64, hkn, hbv]
          exact turnA_self ⟨⟨k + 1, p⟩, by simp only; omega, by simp only; omega, ⟨by simp only; rw [hsucc]; exact hv1, hv2⟩, by simp [h2, h3, h7, h9, h10, h8, h11, h12, hwk, hsucc]⟩
      · have hkE : k = R.length := by omega
        simp [h2, h3, h7, h9, h10, h8, h11, h12, hla, huk]
        rw [hkE, hps] at hv1 ⊢
        cases p with
        | none => exact absurd (hv1.1 rfl) hpsn
        | some bb =>
          rw [updO_some]
          refine turnA_slotN 11 bb (pickS R (s + 1)) (by simp [h2, h3, h7, h9, h10, h8, h11, h12, hkE, hps]) hv2 ?_
          simp [h2, h3, h7, h9, h10, h8, h11, h12]
          refine awp_draw_text (by kernel_rfl) [60, 61] [(.fn (.func 25) [] [], [.agg [.int .i64 r.m, .int .i64 r.c, rowsA r.next], natsA l, natsA (pickS R (s + 1))], natsA (stepF r l (pickS R (s + 1)))),
            (.fn (.func 24) [] [], [.agg [.int .i64 r.m, .int .i64 r.c, rowsA r.next], natsA (stepF r l (pickS R (s + 1)))], .int .i64 (numF r.c (stepF r l (pickS R (s + 1))) : Nat))] (by kernel_rfl) (by kernel_rfl) (by simp; exact ⟨PureV.of c3, PureV.of c4⟩) ?_
          have g3 : ∀ off, cellsAt HH b3 off = some (([.int .i64 r.m, .int .i64 r.c, rowsA r.next] : List AV).drop off) := by intro off; rw [hHH]; simp [ho2]
          have hnl := nlen s
          simp [h2, h3, h7, h9, h10, h8, h11, h12, g3, gamGet_here, gamGet_cons]
          rw [hHH]
          intro b1 hb1
          obtain ⟨x1, x2, x3⟩ : ¬ o = some b1 ∧ ¬ b1 = b3 ∧ ¬ b3 = b1 := by simpa using hb1
          simp [h2, h3, h7, h9, h10, h8, h11, h12, x1, x2, x3]
          refine appendA_updO (by omega) (by omega) (by simpa using ho1.1) (by simp) (by simp) (by simp [x1, x2, x3, ho2]) fun b' hb' => ?_
          obtain ⟨x4, x4', x5, x6⟩ : ¬ b' = b1 ∧ ¬ b1 = b' ∧ ¬ b' = b3 ∧ ¬ b3 = b' := by simpa [x1, x2, x3, ho2] using hb'
          simp [h2, h3, h7, h9, h10, h8, h11, h12, x1, x2, x3, x4, x4', x5, x6]
          refine turnA_to ((AHeap.empty.upd b3 (.cells [.int .i64 r.m, .int .i64 r.c, rowsA r.next])).updO (some b') ((nextF r n joint (s + 1)).map fun x : Nat => AV.int .i64 (x : Int))) ?_ ⟨⟨s + 1, some b'⟩, by simp only; omega, by simp only; omega, ⟨by simp [nsuccs], by simp [x5]⟩, by simp [h2, h3, h7, h9, h10, h8, h11, h12, hj, hla, hws, nsuccs]⟩
          rw [nsuccs]
          simp
          exact Drop.both (Drop.new (Drop.refl _) (by simp [x1, x2, x3]))
  · have hltI : ¬ ((s : Int) + 1) < (T : Int) := by omega
    have hsE : s = T - 1 := by omega
    simp [h2, h3, h7, h8, h9, h10, -lenA, lenA_listA, hu64, hRi, pw2, hltI]
    subst hsE
    rw [hmv] at ho1 ⊢
    exact finA_list rfl ho1 rfl
theorem r_Next (r : Rul) (hr : r.ok) (n : Nat) (hn : n < r.size) (joint : Bool) : Pure Try.prog 38 [r.av, .int .i64 n, .bool joint] (listA (moveL r n joint)) := r_Next0 r hr n hn joint joint rfl
end Go.Proofs
