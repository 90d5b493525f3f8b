/-
  Texts: FlA FlB FlC FlD FlE FlF.
-/
import Derived.Test.YtpnikgfpcgaboaaTy
import Derived.Test.YtpnikgfpcgaboaaAhOwn
set_option linter.unusedSimpArgs false
set_option linter.unusedVariables false
set_option linter.unusedSectionVars false
section
/-
  Flow: networks, tamed.
-/
namespace Go.Proofs
open Go Go.AH
set_option maxRecDepth 10000
set_option maxHeartbeats 4000000

/-- An arc as it comes: from, to, capacity. -/
structure RArc where
  a : Int
  b : Int
  c : Int
def RArc.cells (x : RArc) : List AV := [.int .i64 x.a, .int .i64 x.b, .int .i64 x.c]
def arcC (l : List RArc) : List AV := l.flatMap RArc.cells
def arcsA (l : List RArc) : AV := .sl l.length (arcC l)
/-- The same, nil where it is empty. -/
def arcsL (l : List RArc) : AV := if l = [] then .nilsl else arcsA l
structure RNet where
  n : Int
  arcs : List RArc
def RNet.av (x : RNet) : AV := .agg [.int .i64 x.n, arcsA x.arcs]
def netV (n : Int) (l : List RArc) : AV := .agg [.int .i64 n, arcsL l]
@[simp] theorem arcC_nil : arcC [] = [] := rfl
@[simp] theorem arcC_cons {x : RArc} {l : List RArc} : arcC (x :: l) = .int .i64 x.a :: .int .i64 x.b :: .int .i64 x.c :: arcC l := rfl
@[simp] theorem arcC_append {l m : List RArc} : arcC (l ++ m) = arcC l ++ arcC m := by simp [arcC]
@[simp] theorem arcC_length {l : List RArc} : (arcC l).length = l.length * 3 := by
  induction l with
  | nil => rfl
  | cons x l ih => simp [ih]; omega
theorem arcC_drop : ∀ (i : Nat) (l : List RArc), (arcC l).drop (i * 3) = arcC (l.drop i)
  | 0, l => by simp
  | i + 1, [] => by simp
  | i + 1, x :: l => by
    have := arcC_drop i l
    rw [show (i + 1) * 3 = i * 3 + 3 from by omega]
    simpa using this
theorem arcC_at {l : List RArc} {i : Nat} (hi : i < l.length) : (arcC l).drop (i * 3) = .int .i64 l[i].a :: .int .i64 l[i].b :: .int .i64 l[i].c :: arcC (l.drop (i + 1)) := by
  rw [arcC_drop, List.drop_eq_getElem_cons hi]; rfl
theorem arcC_frozen {l : List RArc} : ∀ x ∈ arcC l, x.frozen = true := by
  intro x hx
  obtain ⟨a, _, h⟩ := List.mem_flatMap.1 hx
  simp [RArc.cells] at h
  rcases h with rfl | rfl | rfl <;> rfl
@[simp] theorem arcsA_frozen {l : List RArc} : (arcsA l).frozen = true := by simp only [arcsA, AV.frozen]; exact frozens_iff.2 arcC_frozen
@[simp] theorem arcsL_frozen {l : List RArc} : (arcsL l).frozen = true := by unfold arcsL; split; rfl; simp
@[simp] theorem arcsL_one {l : List RArc} : (arcsL l).one = true := by unfold arcsL; split <;> rfl
@[simp] theorem arcsL_fit {l : List RArc} : (arcsL l).fit = true := by unfold arcsL; split <;> rfl
@[simp] theorem arcsL_cells {l : List RArc} : (arcsL l).cells = [arcsL l] := by unfold arcsL; split <;> rfl

/-! ### tame -/
def uM (x : Int) : Int := IntKind.u64.wrap x
def tameP (n : Int) (places : Nat) : Nat := 2 + (uM (IntKind.i64.wrap (n - 2)) % (places - 1 : Nat)).toNat
def tameArc (P : Nat) (x : RArc) : RArc :=
  let a := uM x.a % P
  let b := uM x.b % P
  ⟨a, if a = b then (a + 1) % P else b, uM x.c % 1000000001⟩
def tameArcs (P : Nat) (l : List RArc) (most : Nat) : List RArc := (l.take most).map (tameArc P)
theorem w_tame (x : RNet) (hs : x.arcs.length ≤ 4611686018427387904) (places most : Nat) (hp : 3 ≤ places ∧ places ≤ 24) (hm : most ≤ 200) : Pure Try.prog 12 [x.av, .int .i64 places, .int .i64 most] (netV (tameP x.n places) (tameArcs (tameP x.n places) x.arcs most)) := by
  refine pure_of (acalls_of Try.func12 rfl Try.call12 (by kernel_rfl) (by show _ ≤ (82 : Nat); simp) ?_)
  obtain ⟨n, arcs⟩ := x
  simp only [RNet.av, arcsA] at hs ⊢
  obtain ⟨N, hN⟩ : ∃ N, N = min arcs.length most := ⟨_, rfl⟩
  obtain ⟨R, hR⟩ : ∃ R, R = tameArcs (tameP n places) arcs most := ⟨_, rfl⟩
  have hRl : R.length = N := by rw [hR, hN]; simp [tameArcs]; omega
  have u1 := u64_nonneg (IntKind.i64.wrap (n - 2))
  have w1 : IntKind.i64.wrap ((places : Int) - 1) = (places : Int) - 1 := wrap_i64 (by omega) (by omega)
  have w2 : IntKind.u64.wrap ((places : Int) - 1) = (places : Int) - 1 := wrap_u64 (by omega) (by omega)
  have hp1 : ¬ (places : Int) - 1 = 0 := by omega
  have htm : (IntKind.u64.wrap (IntKind.i64.wrap (n - 2))).tmod ((places : Int) - 1) = IntKind.u64.wrap (IntKind.i64.wrap (n - 2)) % ((places : Int) - 1) := Int.tmod_eq_emod_of_nonneg u1.1
  have hmod1 := Int.emod_nonneg (IntKind.u64.wrap (IntKind.i64.wrap (n - 2))) hp1
  have hmod2 := Int.emod_lt_of_pos (IntKind.u64.wrap (IntKind.i64.wrap (n - 2))) (show (0 : Int) < (places : Int) - 1 by omega)
  obtain ⟨P, hP⟩ : ∃ P, P = tameP n places := ⟨_, rfl⟩
  have hPI : 2 + IntKind.u64.wrap (IntKind.i64.wrap (n - 2)) % ((places : Int) - 1) = (P : Int) := by
    rw [hP]; unfold tameP uM
    rw [show ((places - 1 : Nat) : Int) = (places : Int) - 1 from by omega]
    omega
  have w3 : IntKind.i64.wrap (IntKind.u64.wrap (IntKind.i64.wrap (n - 2)) % ((places : Int) - 1)) = IntKind.u64.wrap (IntKind.i64.wrap (n - 2)) % ((places : Int) - 1) := wrap_i64 (by omega) (by omega)
  have w4 : IntKind.i64.wrap (P : Int) = (P : Int) := wrap_i64 (by omega) (by omega)
  have hP2 : 2 ≤ P ∧ P ≤ 24 := by omega
  rw [← hR, ← hP]
  simp
  intro b3 hb3
  simp
  intro b6 hb6
  simp at hb6
  simp [hb6, w1, w2, hp1, htm, w3, hPI, w4]
  intro b7 hb7
  simp at hb7
  simp [hb6, hb7, splice]
  have hPne : ¬ (P : Int) = 0 := by omega
  have hPn0 : ¬ P = 0 := by omega
  have uP : IntKind.u64.wrap (P : Int) = (P : Int) := wrap_u64 (by omega) (by omega)
  refine awp_loop_g (γ := At) (fun q t h => (q.i ≤ N) ∧ ((q.o = none ↔ q.i = 0) ∧ ¬ q.o = some b3 ∧ ¬ q.o = some b6 ∧ ¬ q.o = some b7) ∧ t 2 = .int .i64 most ∧ t 3 = .ptr b3 0 ∧ t 6 = .ptr b6 0 ∧ t 7 = .ptr b7 0 ∧ t 8 = .int .i64 q.i ∧ h = (((AHeap.empty.upd b3 (.cells [.int .i64 n, .sl arcs.length (arcC arcs)])).upd b6 (.cells [.int .i64 0, .nilsl])).upd b7 (.cells [.int .i64 P, ownV q.o q.i 3])).updO q.o (arcC (R.take q.i))) (fun q => N - q.i) (⟨0, none⟩) (turnA_self (by simp [hb6, hb7])) ?_
  rintro q t hx ⟨hi, ho, h2, h3, h6, h7, h8, ex⟩
  rw [ex]
  clear ex
  obtain ⟨i, o⟩ := q
  simp only at h2 h3 h6 h7 h8 hi ho
  obtain ⟨ho1, ho2, ho3, ho4⟩ := ho
  by_cases hlt : i < N
  · have hwi : IntKind.i64.wrap ((i : Int) + 1) = (i : Int) + 1 := wrap_i64 (by omega) (by omega)
    have hin : i < arcs.length := by omega
    have hinI : (i : Int) < (arcs.length : Int) := by omega
    have him : i < most := by omega
    have himI : (i : Int) < (most : Int) := by omega
    have hiR : i < R.length := by omega
    have hat := arcC_at hin
    obtain ⟨y, hy⟩ : ∃ y, y = arcs[i] := ⟨_, rfl⟩
    have hts : arcC (R.take (i + 1)) = arcC (R.take i) ++ (tameArc P y).cells := by
      rw [List.take_succ_eq_append_getElem hiR, arcC_append]
      congr 1
      simp [hR, tameArcs, hy, ← hP, arcC]
    rw [← hy] at hat
    simp [h2, h3, h6, h7, h8, hin, hinI, him, himI, hb6, hb7, ho2, ho3, ho4, hat]
    intro b9 hb9
    simp [ho2, ho3, ho4] at hb9
    have ua := u64_nonneg y.a
    have ub := u64_nonneg y.b
    have uc := u64_nonneg y.c
    obtain ⟨A, hA⟩ : ∃ A : Nat, IntKind.u64.wrap y.a % (P : Int) = A := ⟨(IntKind.u64.wrap y.a % (P : Int)).toNat, by have := Int.emod_nonneg (IntKind.u64.wrap y.a) hPne; omega⟩
    obtain ⟨B, hB⟩ : ∃ B : Nat, IntKind.u64.wrap y.b % (P : Int) = B := ⟨(IntKind.u64.wrap y.b % (P : Int)).toNat, by have := Int.emod_nonneg (IntKind.u64.wrap y.b) hPne; omega⟩
    obtain ⟨D, hD⟩ : ∃ D : Nat, IntKind.u64.wrap y.c % 1000000001 = D := ⟨(IntKind.u64.wrap y.c % 1000000001).toNat, by omega⟩
    have hA2 : A < P := by have := Int.emod_lt_of_pos (IntKind.u64.wrap y.a) (show (0 : Int) < P by omega); omega
    have hB2 : B < P := by have := Int.emod_lt_of_pos (IntKind.u64.wrap y.b) (show (0 : Int) < P by omega); omega
    have hD2 : D < 1000000001 := by omega
    have ta : (IntKind.u64.wrap y.a).tmod (P : Int) = A := by rw [Int.tmod_eq_emod_of_nonneg ua.1, hA]
    have tb : (IntKind.u64.wrap y.b).tmod (P : Int) = B := by rw [Int.tmod_eq_emod_of_nonneg ub.1, hB]
    have tc : (IntKind.u64.wrap y.c).tmod 1000000001 = D := by rw [Int.tmod_eq_emod_of_nonneg uc.1, hD]
    have wA : IntKind.i64.wrap (A : Int) = A := wrap_i64 (by omega) (by omega)
    have wB : IntKind.i64.wrap (B : Int) = B := wrap_i64 (by omega) (by omega)
    have wD : IntKind.i64.wrap (D : Int) = D := wrap_i64 (by omega) (by omega)
    have wA1 : IntKind.i64.wrap ((A : Int) + 1) = (A : Int) + 1 := wrap_i64 (by omega) (by omega)
    have ta1 : ((A : Int) + 1).tmod (P : Int) = ((A + 1) % P : Nat) := by
      rw [Int.tmod_eq_emod_of_nonneg (by omega), show (A : Int) + 1 = ((A + 1 : Nat) : Int) from by omega]; rfl
    have tE : tameArc P y = ⟨A, if A = B then ((A + 1) % P : Nat) else B, D⟩ := by
      unfold tameArc uM
      simp only [hA, hB, hD]
      by_cases q : A = B
      · rw [if_pos (by rw [q]), if_pos q]
        rfl
      · rw [if_neg (by omega), if_neg q]
    rw [tE] at hts
    simp [h2, h3, h6, h7, h8, hb9, hb6, hb7, ho2, ho3, ho4]
    refine awp_draw_text (by kernel_rfl) [] [] (by kernel_rfl) (by kernel_rfl) (by simp) ?_
    simp [h2, h3, h6, h7, h8, hb9, hb6, hb7, ho2, ho3, ho4, hPne, hPn0, uP, ta, tb, tc, wA, wB, wD]
    intro b10 hb10
    simp [ho2, ho3, ho4, hb9] at hb10
    have hz : zcells [.int .i64 0, .int .i64 0, .int .i64 0] 1 = [.int .i64 0, .int .i64 0, .int .i64 0] := rfl
    by_cases q : A = B
    · subst q
      rw [if_pos rfl] at hts
      simp [h2, h3, h6, h7, h8, hb10, hb9, hb6, hb7, ho2, ho3, ho4, splice, hPne, hPn0, wA1, ta1, hz]
      intro b14 hb14
      simp [hb10, hb9, ho2, ho3, ho4] at hb14
      simp [h2, h3, h6, h7, h8, hb14, hb10, hb9, hb6, hb7, ho2, ho3, ho4]
      refine appendA_updO (by omega) (by omega) (fun e => by rw [ho1.1 e]; rfl) (by simp; omega) (by simp) (by cases o with | none => simp | some b => simp at hb14 hb10 hb9 ho2 ho3 ho4 ⊢; grind) fun b' hb' => ?_
      simp [hb14, hb10, hb9, hb6, hb7, ho2, ho3, ho4] at hb'
      simp [h2, h3, h6, h7, h8, hb', hb14, hb10, hb9, hb6, hb7, ho2, ho3, ho4]
      simp [RArc.cells] at hts
      rw [← hts]
      refine turnA_to ((((AHeap.empty.upd b3 (.cells [.int .i64 n, .sl arcs.length (arcC arcs)])).upd b6 (.cells [.int .i64 0, .nilsl])).upd b7 (.cells [.int .i64 P, .osl b' 0 (i + 1) 3])).updO (some b') (arcC (R.take (i + 1)))) ?_ ⟨⟨i + 1, some b'⟩, by simp only; omega, by simp only; omega, by simp [hb'], by simp [h2, h3, h6, h7, h8, hwi]⟩
      simp
      refine Drop.both (Drop.new (Drop.new (Drop.new (Drop.refl _) ?_) ?_) ?_)
      all_goals simp [hb9, hb10, hb14]
    · have qI : ¬ (A : Int) = (B : Int) := by omega
      rw [if_neg q] at hts
      simp [h2, h3, h6, h7, h8, hb10, hb9, hb6, hb7, ho2, ho3, ho4, splice, q, qI, hz]
      intro b14 hb14
      simp [hb10, hb9, ho2, ho3, ho4] at hb14
      simp [h2, h3, h6, h7, h8, hb14, hb10, hb9, hb6, hb7, ho2, ho3, ho4]
      refine appendA_updO (by omega) (by omega) (fun e => by rw [ho1.1 e]; rfl) (by simp; omega) (by simp) (by cases o with | none => simp | some b => simp at hb14 hb10 hb9 ho2 ho3 ho4 ⊢; grind) fun b' hb' => ?_
      simp [hb14, hb10, hb9, hb6, hb7, ho2, ho3, ho4] at hb'
      simp [h2, h3, h6, h7, h8, hb', hb14, hb10, hb9, hb6, hb7, ho2, ho3, ho4]
      simp [RArc.cells] at hts
      rw [← hts]
      refine turnA_to ((((AHeap.empty.upd b3 (.cells [.int .i64 n, .sl arcs.length (arcC arcs)])).upd b6 (.cells [.int .i64 0, .nilsl])).upd b7 (.cells [.int .i64 P, .osl b' 0 (i + 1) 3])).updO (some b') (arcC (R.take (i + 1)))) ?_ ⟨⟨i + 1, some b'⟩, by simp only; omega, by simp only; omega, by simp [hb'], by simp [h2, h3, h6, h7, h8, hwi]⟩
      simp
      refine Drop.both (Drop.new (Drop.new (Drop.new (Drop.refl _) ?_) ?_) ?_)
      all_goals simp [hb9, hb10, hb14]
  · have hiN : i = N := by omega
    have hRt : R.take i = R := List.take_of_length_le (by omega)
    have fin : finA (fun r' _ => r' = netV P R) (.agg [.int .i64 P, ownV o i 3]) ((((AHeap.empty.upd b3 (.cells [.int .i64 n, .sl arcs.length (arcC arcs)])).upd b6 (.cells [.int .i64 P, ownV o i 3])).upd b7 (.cells [.int .i64 P, ownV o i 3])).updO o (arcC R)) := by
      cases o with
      | none =>
        have hi0 := ho1.1 rfl
        have hRe : R = [] := List.eq_nil_of_length_eq_zero (by omega)
        refine finA_drop ?_
        rw [hRe]
        rfl
      | some b =>
        have hRne : ¬ R = [] := fun e => by
          have := ho1.2
          rw [e] at hRl
          simp at hRl
          have := this (by omega)
          cases this
        refine finA_all 3 ?_
        rw [frz_agg]
        simp only [List.map_cons, List.map_nil, ownV_some, updO_some]
        rw [frz_osl (by simp)]
        simp [netV, arcsL, arcsA, hRne, hiN, hRl]
        rw [map_frozen arcC_frozen]
        exact List.take_of_length_le (by simp; omega)
    by_cases c7 : i < arcs.length
    · have c7I : (i : Int) < (arcs.length : Int) := by omega
      have c8 : ¬ i < most := by omega
      have c8I : ¬ (i : Int) < (most : Int) := by omega
      simp [h2, h3, h6, h7, h8, c7, c7I, c8, c8I, hb6, hb7, ho2, ho3, ho4]
      rw [hRt]
      exact fin
    · have c7I : ¬ (i : Int) < (arcs.length : Int) := by omega
      simp [h2, h3, h6, h7, h8, c7, c7I, hb6, hb7, ho2, ho3, ho4]
      rw [hRt]
      exact fin
end Go.Proofs

end

section
/-
  Flow: a network handed on; the members of a set; whether numbers are a set.
-/
namespace Go.Proofs
open Go Go.AH
set_option maxRecDepth 10000
set_option maxHeartbeats 4000000

theorem l_net (n : Int) (l : List RArc) (hl : l.length ≤ 1000) : Pure Try.prog 14 [netV n l] (netV n l) := by
  refine pure_of (acalls_of Try.func14 rfl Try.call14 (by kernel_rfl) (by show _ ≤ (28 : Nat); simp) ?_)
  obtain ⟨V, hV⟩ : ∃ V, V = arcsL l := ⟨_, rfl⟩
  have hV1 : V.one = true := by rw [hV]; simp
  have hV2 : V.fit = true := by rw [hV]; simp
  have hV3 : V.cells = [V] := by rw [hV]; simp
  obtain ⟨N, hN⟩ : ∃ N, N = l.length := ⟨_, rfl⟩
  have hlen : ∀ h : AHeap, lenA Try.prog h 22 V = some (.int .i64 (N : Int)) := by
    intro h
    rw [hV, hN]
    unfold arcsL
    split
    · next e => subst e; simp
    · simp [arcsA]
  rw [show netV n l = .agg [.int .i64 n, V] from by rw [hV]; rfl]
  simp
  intro b1 hb1
  simp [hV1, hV2, hV3]
  intro b2 hb2
  simp at hb2
  simp [hb2]
  intro b3 hb3
  simp at hb3
  simp [hb2, hb3, splice]
  refine awp_loop_g (γ := At) (fun q t h => (q.i ≤ N) ∧ ((q.o = none ↔ q.i = 0) ∧ ¬ q.o = some b1 ∧ ¬ q.o = some b2 ∧ ¬ q.o = some b3) ∧ t 1 = .ptr b1 0 ∧ t 2 = .ptr b2 0 ∧ t 3 = .ptr b3 0 ∧ t 4 = .int .i64 q.i ∧ h = (((AHeap.empty.upd b1 (.cells [.int .i64 n, V])).upd b2 (.cells [.int .i64 0, .nilsl])).upd b3 (.cells [.int .i64 n, ownV q.o q.i 3])).updO q.o (arcC (l.take q.i))) (fun q => N - q.i) (⟨0, none⟩) (turnA_self (by simp [hb2, hb3])) ?_
  rintro q t hx ⟨hi, ho, h1, h2, h3, h4, ex⟩
  rw [ex]
  clear ex
  obtain ⟨i, o⟩ := q
  simp only at h1 h2 h3 h4 hi ho
  obtain ⟨ho1, ho2, ho3, ho4⟩ := ho
  by_cases hlt : i < N
  · have hwi : IntKind.i64.wrap ((i : Int) + 1) = (i : Int) + 1 := wrap_i64 (by omega) (by omega)
    have hin : i < l.length := by omega
    have hne : ¬ l = [] := fun e => by rw [e] at hin; simp at hin
    have hVs : V = .sl l.length (arcC l) := by rw [hV]; unfold arcsL arcsA; rw [if_neg hne]
    have hat := arcC_at hin
    have hts : arcC (l.take (i + 1)) = arcC (l.take i) ++ [.int .i64 l[i].a, .int .i64 l[i].b, .int .i64 l[i].c] := by
      rw [List.take_succ_eq_append_getElem hin, arcC_append]; rfl
    obtain ⟨y, hy⟩ : ∃ y, y = l[i] := ⟨_, rfl⟩
    rw [← hy] at hat hts
    have hz : zcells [.int .i64 0, .int .i64 0, .int .i64 0] 1 = [.int .i64 0, .int .i64 0, .int .i64 0] := rfl
    have hi3 : 3 ≤ l.length * 3 - i * 3 := by omega
    have hi4 : min 3 (l.length * 3 - i * 3) = 3 := by omega
    rw [hVs] at hV1 hV2 hV3 hlen ⊢
    simp [h1, h2, h3, h4, hlen, hlt, hb2, hb3, ho2, ho3, ho4, -lenA, hin, hat, hz, splice, hi3, hi4]
    try simp [h1, h2, h3, h4, hin, hlt, hb2, hb3, ho2, ho3, ho4, hat, hz, splice, hi3, hi4]
    intro b6 hb6
    simp [ho2, ho3, ho4] at hb6
    simp [h1, h2, h3, h4, hb6, hb2, hb3, ho2, ho3, ho4]
    refine appendA_updO (by omega) (by omega) (fun e => by rw [ho1.1 e]; rfl) (by simp; omega) (by simp) (by cases o with | none => simp | some b => simp at hb6 ho2 ho3 ho4 ⊢; grind) fun b' hb' => ?_
    simp [hb6, hb2, hb3, ho2, ho3, ho4] at hb'
    simp [h1, h2, h3, h4, hb', hb6, hb2, hb3, ho2, ho3, ho4]
    rw [← hts]
    refine turnA_to ((((AHeap.empty.upd b1 (.cells [.int .i64 n, .sl l.length (arcC l)])).upd b2 (.cells [.int .i64 0, .nilsl])).upd b3 (.cells [.int .i64 n, .osl b' 0 (i + 1) 3])).updO (some b') (arcC (l.take (i + 1)))) ?_ ⟨⟨i + 1, some b'⟩, by simp only; omega, by simp only; omega, by simp [hb'], by simp [h1, h2, h3, h4, hwi]⟩
    simp
    exact Drop.both (Drop.new (Drop.refl _) (by simp [hb6]))
  · have hiN : i = N := by omega
    have hRt : l.take i = l := List.take_of_length_le (by omega)
    simp [h1, h2, h3, h4, hlen, hlt, hb2, hb3, ho2, ho3, ho4, -lenA]
    rw [hRt]
    cases o with
    | none =>
      have hi0 := ho1.1 rfl
      have hle : l = [] := List.eq_nil_of_length_eq_zero (by omega)
      refine finA_drop ?_
      rw [hV, hle]
      rfl
    | some b =>
      have hne : ¬ l = [] := fun e => by
        have := ho1.2
        rw [e] at hN
        simp at hN
        have := this (by omega)
        cases this
      refine finA_all 3 ?_
      rw [frz_agg]
      simp only [List.map_cons, List.map_nil, ownV_some, updO_some]
      rw [frz_osl (by simp)]
      simp [hV, arcsL, arcsA, hne, hiN, hN]
      rw [map_frozen arcC_frozen]
      exact List.take_of_length_le (by simp)
end Go.Proofs

end

section
/-
  Flow: the members of a set; whether numbers are a set.
-/
namespace Go.Proofs
open Go Go.AH
set_option maxRecDepth 10000
set_option maxHeartbeats 4000000

def natC (l : List Nat) : List AV := l.map fun x : Nat => AV.int .i64 (x : Int)
/-- A list of numbers, nil where it is empty. -/
def natL (l : List Nat) : AV := if l = [] then .nilsl else .sl l.length (natC l)
theorem natC_frozen {l : List Nat} : ∀ x ∈ natC l, x.frozen = true := by
  intro x hx; obtain ⟨a, _, rfl⟩ := List.mem_map.1 hx; rfl
@[simp] theorem natC_length {l : List Nat} : (natC l).length = l.length := by simp [natC]
@[simp] theorem natL_frozen {l : List Nat} : (natL l).frozen = true := by
  unfold natL
  split
  · rfl
  · simp only [AV.frozen]; exact frozens_iff.2 natC_frozen
@[simp] theorem natL_one {l : List Nat} : (natL l).one = true := by unfold natL; split <;> rfl
@[simp] theorem natL_fit {l : List Nat} : (natL l).fit = true := by unfold natL; split <;> rfl
@[simp] theorem natL_cells {l : List Nat} : (natL l).cells = [natL l] := by unfold natL; split <;> rfl
def memL (P s : Nat) : List Nat := (List.range P).filter fun i => s.testBit i
theorem memL_succ (P s : Nat) : memL (P + 1) s = memL P s ++ (if s.testBit P then [P] else []) := by
  unfold memL
  rw [List.range_succ, List.filter_append]
  simp only [List.filter_cons, List.filter_nil]
theorem memL_len (P s : Nat) : (memL P s).length ≤ P := by
  have := List.length_filter_le (fun i => s.testBit i) (List.range P)
  simpa [memL] using this
theorem l_Members (P s : Nat) (hP : P ≤ 24) (hs : s < 2 ^ 24) : Pure Try.prog 15 [.int .i64 (P : Int), .int .i64 (s : Int)] (natL (memL P s)) := by
  refine pure_of (acalls_of Try.func15 rfl Try.call15 (by kernel_rfl) (by show _ ≤ (23 : Nat); simp) ?_)
  simp
  refine awp_loop_g (γ := At) (fun q t h => (q.i ≤ P) ∧ (q.o = none ↔ memL q.i s = []) ∧ t 0 = .int .i64 P ∧ t 1 = .int .i64 s ∧ t 5 = ownV q.o (memL q.i s).length 1 ∧ t 6 = .int .i64 q.i ∧ h = AHeap.empty.updO q.o (natC (memL q.i s))) (fun q => P - q.i) (⟨0, none⟩) (turnA_self (by simp [memL])) ?_
  rintro q t hx ⟨hi, ho, h0, h1, h5, h6, ex⟩
  rw [ex]
  clear ex
  obtain ⟨i, o⟩ := q
  simp only at h0 h1 h5 h6 hi ho
  by_cases hlt : i < P
  · have hwi : IntKind.i64.wrap ((i : Int) + 1) = (i : Int) + 1 := wrap_i64 (by omega) (by omega)
    have hwu : IntKind.u64.wrap (i : Int) = (i : Int) := wrap_u64 (by omega) (by omega)
    have hml := memL_len i s
    have hsc := memL_succ i s
    have hbit : ((s : Int).fdiv (2 ^ min i IntKind.i64.bits)).tmod 2 = ((s / 2 ^ i % 2 : Nat) : Int) := by
      rw [show min i IntKind.i64.bits = i from Nat.min_eq_left (show i ≤ 64 by omega)]
      rw [Int.fdiv_eq_ediv_of_nonneg _ (by exact Int.le_of_lt (Int.pow_pos (by omega)))]
      rw [show ((2 : Int) ^ i) = ((2 ^ i : Nat) : Int) from by simp]
      rw [← Int.natCast_ediv, Int.tmod_eq_emod_of_nonneg (Int.natCast_nonneg _)]
      rfl
    have htb : s.testBit i = decide (s / 2 ^ i % 2 = 1) := Nat.testBit_eq_decide_div_mod_eq
    simp [h0, h1, h5, h6, hlt, hwu, hbit]
    by_cases hq : s / 2 ^ i % 2 = 1
    · have hqI : ((s / 2 ^ i % 2 : Nat) : Int) = 1 := by omega
      rw [htb, decide_eq_true hq, if_pos rfl] at hsc
      have hqI2 : (s : Int) / 2 ^ i % 2 = 1 := by simpa using hqI
      simp [h0, h1, h5, h6, hqI2, splice]
      intro b3 hb3
      simp at hb3
      simp [h0, h1, h5, h6, hb3]
      refine appendA_updO (by omega) (by omega) (fun e => by rw [ho.1 e]; rfl) (by simp) (by simp) (by cases o with | none => simp | some b => simp at hb3 ⊢; grind) fun b' hb' => ?_
      simp [hb3] at hb'
      simp [h0, h1, h5, h6, hb', hb3]
      have hnc : natC (memL i s) ++ [.int .i64 (i : Int)] = natC (memL (i + 1) s) := by rw [hsc]; simp [natC]
      have hln : (memL i s).length + 1 = (memL (i + 1) s).length := by rw [hsc]; simp
      rw [hnc, hln]
      refine turnA_to (AHeap.empty.updO (some b') (natC (memL (i + 1) s))) ?_ ⟨⟨i + 1, some b'⟩, by simp only; omega, by simp only; omega, by simp only; rw [hsc]; simp, by simp [h0, h1, h5, h6, hwi]⟩
      simp
      exact Drop.both (Drop.new (Drop.refl _) (by simp))
    · have hqI : ¬ ((s / 2 ^ i % 2 : Nat) : Int) = 1 := by omega
      have hqI2 : ¬ (s : Int) / 2 ^ i % 2 = 1 := by simpa using hqI
      rw [htb, decide_eq_false hq, if_neg (by simp), List.append_nil] at hsc
      simp [h0, h1, h5, h6, hqI2]
      exact turnA_self ⟨⟨i + 1, o⟩, by simp only; omega, by simp only; omega, by simp only; rw [hsc]; exact ho, by simp [h0, h1, h5, h6, hwi, hsc]⟩
  · obtain rfl : i = P := by omega
    simp [h0, h1, h5, h6]
    cases o with
    | none =>
      rw [natL, if_pos (ho.1 rfl)]
      exact finA_drop rfl
    | some b =>
      have hne : ¬ memL i s = [] := fun e => by cases ho.2 e
      refine finA_all 2 ?_
      simp only [ownV_some, updO_some]
      rw [frz_osl (by simp)]
      simp [natL, hne]
      rw [map_frozen natC_frozen]
      exact List.take_of_length_le (by simp)
end Go.Proofs

end

section
/-
  Flow: whether numbers are a set; whether anything is a network.
-/
namespace Go.Proofs
open Go Go.AH
set_option maxRecDepth 10000
set_option maxHeartbeats 4000000

def intC (l : List Int) : List AV := l.map (.int .i64)
/-- A list of whole numbers, nil where it is empty. -/
def intL (l : List Int) : AV := if l = [] then .nilsl else .sl l.length (intC l)
theorem natL_int (l : List Nat) : natL l = intL (l.map fun x : Nat => (x : Int)) := by
  unfold natL intL natC intC
  simp [Function.comp_def]
theorem intC_frozen {l : List Int} : ∀ x ∈ intC l, x.frozen = true := by
  intro x hx; obtain ⟨a, _, rfl⟩ := List.mem_map.1 hx; rfl
@[simp] theorem intC_length {l : List Int} : (intC l).length = l.length := by simp [intC]
@[simp] theorem intL_frozen {l : List Int} : (intL l).frozen = true := by
  unfold intL
  split
  · rfl
  · simp only [AV.frozen]; exact frozens_iff.2 intC_frozen
@[simp] theorem intL_one {l : List Int} : (intL l).one = true := by unfold intL; split <;> rfl
@[simp] theorem intL_fit {l : List Int} : (intL l).fit = true := by unfold intL; split <;> rfl
@[simp] theorem intL_cells {l : List Int} : (intL l).cells = [intL l] := by unfold intL; split <;> rfl
theorem lenA_intL {h : AHeap} (l : List Int) : lenA Try.prog h 34 (intL l) = some (.int .i64 (l.length : Int)) := by
  unfold intL
  split
  · next e => subst e; simp
  · simp
def okFrom (P : Int) : Int → List Int → Bool
  | _, [] => true
  | last, x :: r => decide (last < x) && decide (x < P) && okFrom P x r
theorem w_isSet (P : Int) (l : List Int) (hl : l.length ≤ 1000000) : Pure Try.prog 51 [.int .i64 P, intL l] (.bool (okFrom P (-1) l)) := by
  refine pure_of (acalls_of Try.func51 rfl Try.call51 (by kernel_rfl) (by show _ ≤ (24 : Nat); simp) ?_)
  simp [-lenA, lenA_intL]
  refine awp_loop_g (γ := Nat × Int) (fun q t h => (q.1 ≤ l.length) ∧ (okFrom P (-1) l = okFrom P q.2 (l.drop q.1)) ∧ t 0 = .int .i64 P ∧ t 5 = .int .i64 q.2 ∧ t 8 = intL l ∧ t 9 = .int .i64 l.length ∧ t 10 = .int .i64 q.1 ∧ h = AHeap.empty) (fun q => l.length - q.1) ((0, -1)) (turnA_self (by simp)) ?_
  rintro q t h ⟨hi, ho, h0, h5, h8, h9, h10, rfl⟩
  obtain ⟨i, last⟩ := q
  simp only at h0 h5 h8 h9 h10 hi ho
  by_cases hlt : i < l.length
  · have hwi : IntKind.i64.wrap ((i : Int) + 1) = (i : Int) + 1 := wrap_i64 (by omega) (by omega)
    have hne : ¬ l = [] := fun e => by rw [e] at hlt; simp at hlt
    have hV : intL l = .sl l.length (intC l) := by unfold intL; rw [if_neg hne]
    have hdr : l.drop i = l[i] :: l.drop (i + 1) := List.drop_eq_getElem_cons hlt
    rw [hdr] at ho
    obtain ⟨x, hx⟩ : ∃ x, x = l[i] := ⟨_, rfl⟩
    have hx' : l[i]'hlt = x := hx.symm
    rw [hx'] at ho
    have hci : (intC l)[i]'(by simpa using hlt) = .int .i64 x := by simp [intC, hx']
    by_cases c1 : x ≤ last
    · have hf : okFrom P (-1) l = false := by rw [ho]; simp [okFrom]; omega
      simp [h0, h5, h8, h9, h10, hlt, hV, hx', intC, c1]
      exact finA_drop (by rw [hf])
    · by_cases c2 : P ≤ x
      · have hf : okFrom P (-1) l = false := by rw [ho]; simp [okFrom]; omega
        simp [h0, h5, h8, h9, h10, hlt, hV, hx', intC, c1, c2]
        exact finA_drop (by rw [hf])
      · have ho2 : okFrom P (-1) l = okFrom P x (l.drop (i + 1)) := by
          rw [ho]
          have c1' : last < x := by omega
          have c2' : x < P := by omega
          simp [okFrom, c1', c2']
        simp [h0, h5, h8, h9, h10, hlt, hV, hx', intC, c1, c2]
        exact turnA_self ⟨i + 1, by omega, by omega, x, ho2, by simp [h0, h5, h8, h9, h10, hwi, hV, intC]⟩
  · obtain rfl : i = l.length := by omega
    rw [List.drop_length] at ho
    have ht : okFrom P (-1) l = true := by rw [ho]; rfl
    simp [h0, h5, h8, h9, h10]
    exact finA_drop (by rw [ht])
end Go.Proofs

end

section
/-
  Flow: searches; whether anything is a network.
-/
namespace Go.Proofs
open Go Go.AH
set_option maxRecDepth 10000
set_option maxHeartbeats 4000000

theorem w_contains (l : List Int) (hl : l.length ≤ 1000000) (y : Int) : Pure Try.prog 60 [intL l, .int .i64 y] (.bool (l.contains y)) := by
  have key : Pure Try.prog 78 [intL l, .int .i64 y] (.int .i64 (if l.contains y then (l.findIdx (· == y) : Int) else -1)) := by
    obtain ⟨r, hr⟩ : ∃ r : Int, r = if l.contains y then (l.findIdx (· == y) : Int) else -1 := ⟨_, rfl⟩
    rw [← hr]
    refine pure_of (acalls_of Try.func78 rfl Try.call78 (by kernel_rfl) (by show _ ≤ (19 : Nat); simp) ?_)
    simp [-lenA, lenA_intL]
    refine awp_loop_g (γ := Nat) (fun k t h => (k ≤ l.length) ∧ (∀ i (hi : i < l.length), i < k → l[i] ≠ y) ∧ t 0 = intL l ∧ t 1 = .int .i64 y ∧ t 7 = .int .i64 l.length ∧ t 8 = .int .i64 k ∧ h = AHeap.empty) (fun k => l.length - k) (0) (turnA_self (by simp)) ?_
    rintro k t h ⟨hk, hno, h0, h1, h7, h8, rfl⟩
    by_cases hlt : k < l.length
    · have hw : IntKind.i64.wrap ((k : Int) + 1) = (k : Int) + 1 := wrap_i64 (by omega) (by omega)
      have hne : ¬ l = [] := fun e => by rw [e] at hlt; simp at hlt
      have hV : intL l = .sl l.length (intC l) := by unfold intL; rw [if_neg hne]
      obtain ⟨x, hx⟩ : ∃ x, x = l[k] := ⟨_, rfl⟩
      have hx' : l[k]'hlt = x := hx.symm
      by_cases c : y = x
      · have h1' : l.contains y = true := by
          rw [List.contains_iff_mem, c, hx]; exact List.getElem_mem hlt
        have h2 : l.findIdx (· == y) = k := by
          rw [List.findIdx_eq hlt]
          exact ⟨by simp [hx', c], fun i hi => by simpa using hno i (by omega) hi⟩
        simp [h0, h1, h7, h8, hlt, hV, intC, hx', c]
        refine finA_drop ?_
        rw [hr, if_pos h1', h2]
      · simp [h0, h1, h7, h8, hlt, hV, intC, hx', c]
        exact turnA_self ⟨k + 1, by omega, by omega, fun i hi hik => by
          by_cases e : i = k
          · subst e; rw [hx']; exact fun q => c q.symm
          · exact hno i hi (by omega), by simp [h0, h1, h7, h8, hw, hV, intC]⟩
    · obtain rfl : k = l.length := by omega
      have h1' : l.contains y = false := by
        cases h : l.contains y with
        | false => rfl
        | true =>
          rw [List.contains_iff_mem] at h
          obtain ⟨i, hi, e⟩ := List.mem_iff_getElem.1 h
          exact absurd e (hno i hi hi)
      simp [h0, h1, h7, h8]
      refine finA_drop ?_
      rw [hr, h1']; rfl
  obtain ⟨cb, hcb⟩ : ∃ cb, cb = l.contains y := ⟨_, rfl⟩
  rw [← hcb] at key ⊢
  refine pure_of (acalls_of Try.func60 rfl Try.call60 (by kernel_rfl) (by show _ ≤ (9 : Nat); simp) ?_)
  simp
  refine key.use ?_
  cases cb with
  | true =>
    simp
    exact finA_drop rfl
  | false =>
    simp
    exact finA_drop rfl

def arcV (x : RArc) : AV := .agg [.int .i64 x.a, .int .i64 x.b, .int .i64 x.c]
def arcOk (n : Int) (x : RArc) : Bool := decide (0 ≤ x.a) && decide (0 ≤ x.b) && decide (x.a < n) && decide (x.b < n) && decide (x.a ≠ x.b) && decide (0 ≤ x.c) && decide (x.c ≤ 1000000000)
theorem w_isArc (n : Int) (x : RArc) : Pure Try.prog 73 [.int .i64 n, arcV x] (.bool (arcOk n x)) := by
  refine pure_of (acalls_of Try.func73 rfl Try.call73 (by kernel_rfl) (by show _ ≤ (37 : Nat); simp) ?_)
  obtain ⟨a, b, c⟩ := x
  obtain ⟨r, hr⟩ : ∃ r, r = arcOk n ⟨a, b, c⟩ := ⟨_, rfl⟩
  rw [← hr]
  unfold arcV
  unfold arcOk at hr
  simp
  intro b3 hb3
  simp
  by_cases q1 : 0 ≤ if b < a then b else a
  · have p1 : 0 ≤ a ∧ 0 ≤ b := by split at q1 <;> omega
    by_cases q2 : (if a < b then b else a) < n
    · have p2 : a < n ∧ b < n := by split at q2 <;> omega
      by_cases q3 : a = b
      · subst q3
        have : r = false := by rw [hr]; simp
        simp [p1.1, p2.1]
        exact finA_drop (by rw [this])
      · by_cases q4 : 0 ≤ c
        · by_cases q5 : c ≤ 1000000000
          · have : r = true := by rw [hr]; simp [p1, p2, q3, q4, q5]
            simp [q1, q2, q3, q4, q5]
            exact finA_drop (by rw [this])
          · have : r = false := by rw [hr]; simp [q5]
            simp [q1, q2, q3, q4, q5]
            exact finA_drop (by rw [this])
        · have : r = false := by rw [hr]; simp [q4]
          simp [q1, q2, q3, q4]
          exact finA_drop (by rw [this])
    · have p2 : ¬ (a < n ∧ b < n) := by split at q2 <;> omega
      have : r = false := by rw [hr]; simp; omega
      simp [q1, q2]
      exact finA_drop (by rw [this])
  · have p1 : ¬ (0 ≤ a ∧ 0 ≤ b) := by split at q1 <;> omega
    have : r = false := by rw [hr]; simp; omega
    simp [q1]
    exact finA_drop (by rw [this])
end Go.Proofs

end

section
/-
  Flow: whether anything is a network.
-/
namespace Go.Proofs
open Go Go.AH
set_option maxRecDepth 10000
set_option maxHeartbeats 4000000

theorem lenA_arcsL {h : AHeap} (l : List RArc) : lenA Try.prog h 30 (arcsL l) = some (.int .i64 (l.length : Int)) := by
  unfold arcsL
  split
  · next e => subst e; simp
  · simp [arcsA]
def idxArc (l : List RArc) (p : RArc → Bool) : Int := if l.any p then (l.findIdx p : Int) else -1
theorem w_indexArc (l : List RArc) (hl : l.length ≤ 1000000) (f : AV) (p : RArc → Bool) (H : AHeap) (hp : ∀ x ∈ l, ACallV Try.prog f [arcV x] H fun r h' => r = .bool (p x) ∧ h' = H) :
    ACalls Try.prog 83 [arcsL l, f] H fun r h' => r = .int .i64 (idxArc l p) ∧ h' = H := by
  refine acalls_of Try.func83 rfl Try.call83 (by kernel_rfl) (by show _ ≤ (19 : Nat); simp) ?_
  simp [-lenA, lenA_arcsL]
  refine awp_loop_g (γ := Nat) (fun k t h => (k ≤ l.length) ∧ (∀ i (hi : i < l.length), i < k → p l[i] = false) ∧ t 0 = arcsL l ∧ t 1 = f ∧ t 7 = .int .i64 l.length ∧ t 8 = .int .i64 k ∧ h = H) (fun k => l.length - k) (0) (turnA_self (by simp)) ?_
  rintro k t h ⟨hk, hno, h0, h1, h7, h8, rfl⟩
  by_cases hlt : k < l.length
  · have hw : IntKind.i64.wrap ((k : Int) + 1) = (k : Int) + 1 := wrap_i64 (by omega) (by omega)
    have hne : ¬ l = [] := fun e => by rw [e] at hlt; simp at hlt
    have hV : arcsL l = .sl l.length (arcC l) := by unfold arcsL arcsA; rw [if_neg hne]
    have hat := arcC_at hlt
    have hc := hp _ (List.getElem_mem hlt)
    obtain ⟨y, hy⟩ : ∃ y, y = l[k] := ⟨_, rfl⟩
    rw [← hy] at hat hc
    unfold arcV at hc
    have hi3 : 3 ≤ l.length * 3 - k * 3 := by omega
    have hi4 : min 3 (l.length * 3 - k * 3) = 3 := by omega
    simp [h0, h1, h7, h8, hlt, hV, hat, hi3, hi4]
    refine hc.use ?_
    simp
    refine condA_case ?_ ?_
    · intro hpk
      have h1' : l.any p = true := List.any_eq_true.2 ⟨l[k], List.getElem_mem hlt, by rw [← hy]; exact hpk⟩
      have h2 : l.findIdx p = k := by
        rw [List.findIdx_eq hlt]
        exact ⟨by rw [← hy]; exact hpk, fun i hi => hno i (by omega) hi⟩
      simp [h0, h1, h7, h8]
      refine finA_self ⟨?_, rfl⟩
      rw [idxArc, if_pos h1', h2]
    · intro hpk
      simp [h0, h1, h7, h8]
      exact turnA_self ⟨k + 1, by omega, by omega, fun i hi hik => by
        by_cases e : i = k
        · subst e; rw [← hy]; exact hpk
        · exact hno i hi (by omega), by simp [h0, h1, h7, h8, hw, hV]⟩
  · obtain rfl : k = l.length := by omega
    have h1' : l.any p = false := by
      rw [List.any_eq_false]
      intro x hx
      obtain ⟨i, hi, rfl⟩ := List.mem_iff_getElem.1 hx
      simp [hno i hi hi]
    simp [h0, h1, h7, h8]
    refine finA_self ⟨?_, rfl⟩
    rw [idxArc, h1']; rfl
theorem w_containsArc (l : List RArc) (hl : l.length ≤ 1000000) (f : AV) (p : RArc → Bool) (H : AHeap) (hp : ∀ x ∈ l, ACallV Try.prog f [arcV x] H fun r h' => r = .bool (p x) ∧ h' = H) :
    ACalls Try.prog 71 [arcsL l, f] H fun r h' => r = .bool (l.any p) ∧ h' = H := by
  refine acalls_of Try.func71 rfl Try.call71 (by kernel_rfl) (by show _ ≤ (9 : Nat); simp) ?_
  simp
  refine (w_indexArc l hl f p H hp).use ?_
  simp
  refine finA_self ⟨?_, rfl⟩
  by_cases h : l.any p = true
  · rw [idxArc, if_pos h, h]; simp
  · have h' : l.any p = false := by simpa using h
    rw [idxArc, if_neg h, h']; simp
theorem w_Check1 (n : Int) (V : AV) (H : AHeap) (b : Nat) (e : cellsAt H b 0 = some [.int .i64 n, V]) (x : RArc) : ACallV Try.prog (.fn (.func 72) [] [.ptr b 0]) [arcV x] H fun r h' => r = .bool (!arcOk n x) ∧ h' = H := by
  rw [ACallV_func]
  refine acalls_of Try.func72 rfl Try.call72 (by kernel_rfl) (by show _ ≤ (9 : Nat); simp) ?_
  have c := w_isArc n x
  unfold arcV at c ⊢
  simp
  intro b2 hb2
  have n2 := ne_fresh e hb2
  simp [e, n2]
  refine c.use ?_
  simp
  exact finA_same H (Drop.new (Drop.refl _) hb2) ⟨rfl, rfl⟩
def chkNet (n : Int) (l : List RArc) : Int := if n < 2 ∨ 24 < n ∨ 200 < l.length ∨ l.any (fun x => !arcOk n x) = true then 30 else 0
theorem w_CheckN (n : Int) (l : List RArc) (hl : l.length ≤ 1000000) : Pure Try.prog 49 [netV n l] (.int .i64 (chkNet n l)) := by
  refine pure_of (acalls_of Try.func49 rfl Try.call49 (by kernel_rfl) (by show _ ≤ (23 : Nat); simp) ?_)
  obtain ⟨V, hV⟩ : ∃ V, V = arcsL l := ⟨_, rfl⟩
  have hV1 : V.one = true := by rw [hV]; simp
  have hV2 : V.fit = true := by rw [hV]; simp
  have hV3 : V.cells = [V] := by rw [hV]; simp
  have hlen : ∀ h : AHeap, lenA Try.prog h 30 V = some (.int .i64 (l.length : Int)) := fun h => by rw [hV]; exact lenA_arcsL l
  obtain ⟨r, hr⟩ : ∃ r, r = chkNet n l := ⟨_, rfl⟩
  rw [← hr]
  unfold chkNet at hr
  rw [show netV n l = .agg [.int .i64 n, V] from by rw [hV]; rfl]
  simp
  intro b1 hb1
  simp [hV1, hV2, hV3]
  by_cases q1 : n < 2
  · have : r = 30 := by rw [hr, if_pos (.inl q1)]
    simp [q1]
    exact finA_drop (by rw [this])
  · by_cases q2 : 24 < n
    · have : r = 30 := by rw [hr, if_pos (.inr (.inl q2))]
      simp [q1, q2]
      exact finA_drop (by rw [this])
    · by_cases q3 : 200 < l.length
      · have q3I : 200 < (l.length : Int) := by omega
        have : r = 30 := by rw [hr, if_pos (.inr (.inr (.inl q3)))]
        simp [q1, q2, -lenA, hlen, q3I, q3]
        exact finA_drop (by rw [this])
      · have q3I : ¬ 200 < (l.length : Int) := by omega
        have cc := w_containsArc l hl (.fn (.func 72) [] [.ptr b1 0]) (fun x => !arcOk n x) (AHeap.empty.upd b1 (.cells [.int .i64 n, V])) (fun x _ => w_Check1 n V _ b1 (by simp) x)
        rw [← hV] at cc
        simp [q1, q2, -lenA, hlen, q3I, q3]
        refine cc.use ?_
        cases q4 : l.any (fun x => !arcOk n x) with
        | true =>
          have : r = 30 := by rw [hr, if_pos (.inr (.inr (.inr q4)))]
          simp
          exact finA_drop (by rw [this])
        | false =>
          have : r = 0 := by rw [hr, if_neg (by rw [q4]; rintro (h | h | h | h) <;> first | omega | cases h)]
          simp
          exact finA_drop (by rw [this])
end Go.Proofs

end
