/-
  Ring: where joint steps lead: the iterator.
-/
import Derived.Test.YtobdaaoefbgilaaRgJ3
set_option linter.unusedSimpArgs false
set_option linter.unusedVariables false
set_option linter.unusedSectionVars false
namespace Go.Proofs
open Go Go.AH
set_option maxRecDepth 10000
set_option maxHeartbeats 4000000

/-- The places in a set. -/
def bitB (set k : Nat) : Bool := set / 2 ^ k % 2 == 1
def pickI (len set : Nat) : List Nat := (List.range len).filter (bitB set)
def pickS (R : List Nat) (set : Nat) : List Nat := (pickI R.length set).map fun k => R.getD k 0
theorem bit_val : ∀ s : Nat, s < 64 → ∀ k : Nat, k < 6 → IntKind.i64.wrap (((Int.fdiv ((s : Int) + 1) (2 ^ min k IntKind.i64.bits) % 2 ^ IntKind.i64.bits).toNat &&& 1 % 2 ^ IntKind.i64.bits : Nat) : Int) = if bitB (s + 1) k = true then 1 else 0 := by decide +kernel
theorem pickI_ne : ∀ len, len < 7 → ∀ set, set < 64 → 0 < set → set < 2 ^ len → pickI len set ≠ [] := by decide +kernel
theorem pow_le64 : ∀ len : Nat, len < 7 → 2 ^ len ≤ 64 ∧ IntKind.i64.wrap ((2 : Int) ^ min len IntKind.i64.bits) = ((2 ^ len : Nat) : Int) := by decide +kernel
def pickK (R : List Nat) (set j : Nat) : List Nat := ((List.range j).filter (bitB set)).map fun k => R.getD k 0
theorem pickK_succ (R : List Nat) (set j : Nat) : pickK R set (j + 1) = pickK R set j ++ (if bitB set j = true then [R.getD j 0] else []) := by
  unfold pickK
  rw [List.range_succ, List.filter_append, List.map_append]
  congr 1
  by_cases h : bitB set j = true <;> simp [h]
theorem pickK_len (R : List Nat) (set j : Nat) : (pickK R set j).length ≤ j := by
  unfold pickK
  rw [List.length_map]
  exact Nat.le_trans (List.length_filter_le _ _) (by simp)
theorem pickS_mem {R : List Nat} {set : Nat} : ∀ i ∈ pickS R set, i ∈ R := by
  intro i hi
  obtain ⟨k, hk, rfl⟩ := List.mem_map.1 hi
  have hk' : k < R.length := List.mem_range.1 (List.mem_filter.1 hk).1
  rw [show R.getD k 0 = R[k] from by simp [hk']]
  exact List.getElem_mem hk'
/-- Where joint steps lead. -/
def jointF (r : Rul) (n : Nat) : List Nat := (List.range (2 ^ (readyF r (ofF r.c r.m n)).length - 1)).map fun s => numF r.c (stepF r (ofF r.c r.m n) (pickS (readyF r (ofF r.c r.m n)) (s + 1)))

structure LJ (γ : Type) where
  s : Nat
  g : γ
  h : AHeap
theorem it_joint (r : Rul) (hr : r.ok) (joint : Bool) (b n : Nat) (hn : n < r.size) : IterH Try.prog (JAt r joint b) (mvFn true b n) (fun t : Nat => [.int .i64 t]) (jointF r n) true := by
  intro γ I step go y g0 hp0 hS hgo hI _ hy
  refine acalls_of Try.func83 rfl Try.call83 (by kernel_rfl) (by show _ ≤ (68 : Nat); simp) ?_
  have q1 := hr.m2; have q2 := hr.m6; have q3 := hr.c2; have q4 := hr.c6; have q5 := hr.sz
  have cf := of_cfg hr n
  obtain ⟨l, hl⟩ : ∃ l, l = ofF r.c r.m n := ⟨_, rfl⟩
  have c1 := w_config r hr n hn
  rw [← hl] at c1 cf
  obtain ⟨R, hR⟩ : ∃ R, R = readyF r l := ⟨_, rfl⟩
  have hRl : R.length ≤ r.m := by rw [hR]; exact readyF_len0 r l
  have hRok : ∀ i ∈ R, i < r.m ∧ 0 ≤ takesF r l i := by rw [hR]; exact fun i hi => readyF_ok0 i hi
  simp only [Rul.av] at c1
  have e0 : ∀ h, JAt r joint b h → ∀ off, cellsAt h b off = some (([.int .i64 r.m, .int .i64 r.c, rowsA r.next, .int .i64 (r.size : Nat), .sl r.size (readyL r r.size), jMoves joint b] : List AV).drop off) := fun h q => q
  have hn' : n < (readyL r r.size).length := by simpa using hn
  have hg := readyL_get hn'
  rw [← hl, ← hR] at hg
  have l6 : (cfgL l).length = 6 := cfgL_len (by have := cf.len; omega)
  have hz : splice [.int .u8 0, .int .u8 0, .int .u8 0, .int .u8 0, .int .u8 0, .int .u8 0] 0 (cfgL l) = cfgL l := splice_all (by rw [l6]; rfl)
  have ltk : (cfgL l).take 6 = cfgL l := List.take_of_length_le (by omega)
  have j0 := e0 hp0 (hS _ _ hI)
  obtain ⟨p64, pw2⟩ := pow_le64 R.length (by omega)
  obtain ⟨T, hT⟩ : ∃ T, T = 2 ^ R.length := ⟨_, rfl⟩
  rw [← hT] at p64 pw2
  have hTp : 0 < T := by rw [hT]; exact Nat.pow_pos (by omega)
  simp
  refine awp_draw_text (by kernel_rfl) [14] [(.fn (.func 59) [] [], [.agg [.int .i64 r.m, .int .i64 r.c, rowsA r.next], .int .i64 n], cfgA l)] (by kernel_rfl) (by kernel_rfl) (by simp; exact PureV.of c1) ?_
  simp [j0, gamGet_here, cfgA]
  intro b4 hb4
  have n4 := ne_fresh (j0 0) hb4
  simp [l6, hz]
  refine awp_loop_g (γ := LJ γ) (fun q t h => (q.s + 1 ≤ T) ∧ (go q.g = true) ∧ (I q.g q.h) ∧ (runIt step go g0 ((jointF r n).take q.s) = q.g) ∧ t 0 = y ∧ t 1 = .fptr [.ptr b 0] ∧ t 2 = .fptr [.int .i64 n] ∧ t 4 = .fptr (cfgL l) ∧ t 5 = .int .i64 ((q.s + 1 : Nat) : Int) ∧ h = q.h) (fun q => T - q.s) (⟨0, g0, hp0⟩) (turnA_ptr 4 b4 (cfgL l) (by simp) hb4 (by simp [hgo, hI, runIt]; omega)) ?_
  rintro q t hx ⟨hs, hgq, hIq, hrun, h0, h1, h2, h4, h5, ex⟩
  rw [ex]
  clear ex
  obtain ⟨s, g, hh⟩ := q
  simp only at h0 h1 h2 h4 h5 hs hgq hIq hrun
  have j1 := e0 hh (hS _ _ hIq)
  have hRi : ¬ ((R.length : Int) < 0) := by omega
  simp [h0, h1, h2, h4, h5]
  refine awp_draw_text (by kernel_rfl) [] [] (by kernel_rfl) (by kernel_rfl) (by simp) ?_
  have hu64 : IntKind.u64.wrap (R.length : Int) = R.length := wrap_u64 (by omega) (by omega)
  have hsl : (jointF r n).length = T - 1 := by rw [hT, hR, hl]; simp [jointF]
  by_cases hlt : s + 1 < T
  · have hltI : ((s : Int) + 1) < (T : Int) := by omega
    simp [h0, h1, h2, h4, h5, j1, hn, hg, -lenA, lenA_listA, hu64, hRi, pw2, hltI]
    refine awp_draw_text (by kernel_rfl) [] [] (by kernel_rfl) (by kernel_rfl) (by simp) ?_
    simp [h0, h1, h2, h4, h5, j1, hn, hg, -lenA, lenA_listA]
    have hRn : ¬ R = [] := fun e => by rw [e] at hT; simp at hT; omega
    have hla : listA R = .sl R.length (R.map fun x : Nat => AV.int .i64 (x : Int)) := by unfold listA; rw [if_neg hRn]; rfl
    have hpn := pickI_ne R.length (by omega) (s + 1) (by omega) (by omega) (by rw [← hT]; exact hlt)
    have hps : pickK R (s + 1) R.length = pickS R (s + 1) := rfl
    have hpsn : ¬ pickS R (s + 1) = [] := by unfold pickS; simpa using hpn
    have hms : ∀ i ∈ pickS R (s + 1), i < r.m ∧ 0 ≤ takesF r l i := fun i hi => hRok i (pickS_mem i hi)
    have c2 := w_step r hr l cf (pickS R (s + 1)) hms (by have := pickK_len R (s + 1) R.length; rw [hps] at this; omega)
    have cf2 := step_cfg hr cf hms
    have c3 := w_number r hr (stepF r l (pickS R (s + 1))) cf2
    simp only [Rul.av, cfgA] at c2 c3
    refine awp_loop_t (γ := At) (fun u t h => (u.i ≤ R.length) ∧ ((u.o = none ↔ pickK R (s + 1) u.i = []) ∧ FreshO hh u.o) ∧ t 0 = y ∧ t 1 = .fptr [.ptr b 0] ∧ t 2 = .fptr [.int .i64 n] ∧ t 4 = .fptr (cfgL l) ∧ t 5 = .int .i64 ((s + 1 : Nat) : Int) ∧ t 6 = ownV u.o (pickK R (s + 1) u.i).length 1 ∧ t 35 = .sl R.length (R.map fun x : Nat => AV.int .i64 (x : Int)) ∧ t 36 = .int .i64 R.length ∧ t 37 = .int .i64 u.i ∧ h = hh.updO u.o ((pickK R (s + 1) u.i).map fun x : Nat => AV.int .i64 (x : Int))) (fun u => R.length - u.i) (⟨0, none⟩) (turnA_self (by simp [h0, h1, h2, h4, h5, hla, pickK])) ?_
    rintro u t hx ⟨hu, ho, h0, h1, h2, h4, h5, h6, h35, h36, h37, ex⟩
    rw [ex]
    clear ex
    obtain ⟨k, o⟩ := u
    simp only at h0 h1 h2 h4 h5 h6 h35 h36 h37 hu ho
    obtain ⟨ho1, ho2⟩ := ho
    by_cases huk : k < R.length
    · have hwk : IntKind.i64.wrap ((k : Int) + 1) = (k : Int) + 1 := wrap_i64 (by omega) (by omega)
      have hbv := bit_val s (by omega) k (by omega)
      have hk64 : IntKind.u64.wrap (k : Int) = k := wrap_u64 (by omega) (by omega)
      have hkn : ¬ ((k : Int) < 0) := by omega
      have hsucc := pickK_succ R (s + 1) k
      have hkl := pickK_len R (s + 1) k
      have hgd : R.getD k 0 = R[k] := by simp [huk]
      rw [hgd] at hsucc
      obtain ⟨i, hi⟩ : ∃ i, i = R[k] := ⟨_, rfl⟩
      have hi' : R[k]'huk = i := hi.symm
      rw [hi'] at hsucc
      by_cases hbit : bitB (s + 1) k = true
      · rw [if_pos hbit] at hbv hsucc
        simp [h0, h1, h2, h4, h5, h6, h35, h36, h37, huk, hi', hk64, hkn, hbv]
        intro b1 hb1
        simp at hb1
        obtain ⟨z1, z2⟩ : ¬ o = some b1 ∧ Fresh hh b1 := hb1
        simp [h0, h1, h2, h4, h5, h6, h35, h36, h37, z1, z2]
        refine appendA_updO (by omega) (by omega) (by simpa using ho1.1) (by simp) (by simp) (by simp [z1, z2, ho2]) fun b' hb' => ?_
        obtain ⟨z3, z3', z4⟩ : ¬ b' = b1 ∧ ¬ b1 = b' ∧ Fresh hh b' := by simpa [z1, z2] using hb'
        simp [h0, h1, h2, h4, h5, h6, h35, h36, h37, z1, z2, z3, z3', z4]
        refine turnA_to (hh.updO (some b') ((pickK R (s + 1) (k + 1)).map fun x : Nat => AV.int .i64 (x : Int))) ?_ ⟨⟨k + 1, some b'⟩, by simp only; omega, by simp only; omega, ⟨by simp [hsucc], z4⟩, by simp [h0, h1, h2, h4, h5, h6, h35, h36, h37, hwk, hsucc]⟩
        rw [hsucc]
        simp
        exact Drop.both (Drop.new (Drop.refl _) (by simp [z2]))
      · rw [if_neg hbit] at hbv hsucc
        rw [List.append_nil] at hsucc
        simp [h0, h1, h2, h4, h5, h6, h35, h36, h37, huk, hi', hk64, hkn, hbv]
        exact turnA_self ⟨⟨k + 1, o⟩, by simp only; omega, by simp only; omega, ⟨by simp only; rw [hsucc]; exact ho1, ho2⟩, by simp [h0, h1, h2, h4, h5, h6, h35, h36, h37, hwk, hsucc]⟩
    · have hkE : k = R.length := by omega
      simp [h0, h1, h2, h4, h5, h6, h35, h36, h37, huk]
      rw [hkE, hps] at ho1 ⊢
      cases o with
      | none => exact absurd (ho1.1 rfl) hpsn
      | some bb =>
        rw [updO_some]
        refine turnA_slotN 6 bb (pickS R (s + 1)) (by simp [h0, h1, h2, h4, h5, h6, h35, h36, h37, hkE, hps]) ho2 ?_
        obtain ⟨x, hx⟩ : ∃ x, x = numF r.c (stepF r l (pickS R (s + 1))) := ⟨_, rfl⟩
        rw [← hx] at c3
        have hsj : s < (jointF r n).length := by omega
        have hgx : (jointF r n)[s]? = some x := by
          rw [List.getElem?_eq_getElem hsj, hx]
          congr 1
          subst hR hl
          simp only [jointF, List.getElem_map, List.getElem_range]
        have hts : (jointF r n).take (s + 1) = (jointF r n).take s ++ [x] := by
          rw [List.take_succ_eq_append_getElem hsj]
          rw [List.getElem?_eq_getElem hsj] at hgx
          simp only [Option.some.injEq] at hgx
          rw [hgx]
        have hgf : g = ((jointF r n).take s).foldl step g0 := by rw [← hrun]; exact runIt_go _ _ (by rw [hrun]; exact hgq)
        have cy := hy s g x hh hgx hgf hgq hIq
        have hrs : runIt step go g0 ((jointF r n).take (s + 1)) = step g x := by rw [hts, runIt_snoc (by rw [hrun]; exact hgq), hrun]
        have hws : IntKind.i64.wrap ((s : Int) + 1 + 1) = (s : Int) + 1 + 1 := wrap_i64 (by omega) (by omega)
        simp [h0, h1, h2, h4, h5, h6, h35, h36, h37]
        refine awp_draw_text (by kernel_rfl) [64] [(.fn (.func 52) [] [], [.agg [.int .i64 r.m, .int .i64 r.c, rowsA r.next], .agg (cfgL l), natsA (pickS R (s + 1))], .agg (cfgL (stepF r l (pickS R (s + 1)))))] (by kernel_rfl) (by kernel_rfl) (by simp; exact PureV.of c2) ?_
        simp [h0, h1, h2, h4, h5, h6, h35, h36, h37, j1, l6, ltk, gamGet_here]
        refine c3.use ?_
        simp [h0, h1, h2, h4, h5, h6, h35, h36, h37]
        refine ACallV.mono cy ?_
        rintro r' h' ⟨rfl, hI'⟩
        cases hgo2 : go (step g x) with
        | false =>
          have hall : runIt step go g0 (jointF r n) = step g x := by
            have := runIt_off (step := step) (go := go) ((jointF r n).take (s + 1)) ((jointF r n).drop (s + 1)) g0 hgo (by rw [hrs]; exact hgo2)
            rw [List.take_append_drop, hrs] at this
            exact this
          simp [hgo2]
          refine finA_self ?_
          rw [hall]; exact hI'
        | true =>
          simp [h0, h1, h2, h4, h5, h6, h35, h36, h37, hgo2]
          exact turnA_self ⟨⟨s + 1, step g x, h'⟩, by simp only; omega, by simp only; omega, hgo2, hI', hrs, by simp [h0, h1, h2, h4, h5, h6, h35, h36, h37, hws]⟩
  · have hltI : ¬ ((s : Int) + 1) < (T : Int) := by omega
    simp [h0, h1, h2, h4, h5, j1, hn, hg, -lenA, lenA_listA, hu64, hRi, pw2, hltI]
    refine finA_self ?_
    have hsE : s = (jointF r n).length := by omega
    rw [hsE, List.take_length] at hrun
    rw [hrun]; exact hIq
end Go.Proofs
