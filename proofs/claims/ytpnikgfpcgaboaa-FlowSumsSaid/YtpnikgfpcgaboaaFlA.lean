/-
  Flow: networks, tamed.
-/
import Derived.Test.YtpnikgfpcgaboaaTy
import Derived.Test.YtpnikgfpcgaboaaAhOwn
set_option linter.unusedSimpArgs false
set_option linter.unusedVariables false
set_option linter.unusedSectionVars false
namespace Go.Proofs
open Go Go.AH
set_option maxRecDepth 10000
set_option maxHeartbeats 4000000

/-- An arc as it comes: from, to, capacity. -/
structure RArc where
  a : Int
  b : Int
  c : Int
def RArc.cells (x : RArc) : List AV := [.int .i64 x.a, .int .i64 x.b, .int .i64 x.c]
def arcC (l : List RArc) : List AV := l.flatMap RArc.cells
def arcsA (l : List RArc) : AV := .sl l.length (arcC l)
/-- The same, nil where it is empty. -/
def arcsL (l : List RArc) : AV := if l = [] then .nilsl else arcsA l
structure RNet where
  n : Int
  arcs : List RArc
def RNet.av (x : RNet) : AV := .agg [.int .i64 x.n, arcsA x.arcs]
def netV (n : Int) (l : List RArc) : AV := .agg [.int .i64 n, arcsL l]
@[simp] theorem arcC_nil : arcC [] = [] := rfl
@[simp] theorem arcC_cons {x : RArc} {l : List RArc} : arcC (x :: l) = .int .i64 x.a :: .int .i64 x.b :: .int .i64 x.c :: arcC l := rfl
@[simp] theorem arcC_append {l m : List RArc} : arcC (l ++ m) = arcC l ++ arcC m := by simp [arcC]
@[simp] theorem arcC_length {l : List RArc} : (arcC l).length = l.length * 3 := by
  induction l with
  | nil => rfl
  | cons x l ih => simp [ih]; omega
theorem arcC_drop : ∀ (i : Nat) (l : List RArc), (arcC l).drop (i * 3) = arcC (l.drop i)
  | 0, l => by simp
  | i + 1, [] => by simp
  | i + 1, x :: l => by
    have := arcC_drop i l
    rw [show (i + 1) * 3 = i * 3 + 3 from by omega]
    simpa using this
theorem arcC_at {l : List RArc} {i : Nat} (hi : i < l.length) : (arcC l).drop (i * 3) = .int .i64 l[i].a :: .int .i64 l[i].b :: .int .i64 l[i].c :: arcC (l.drop (i + 1)) := by
  rw [arcC_drop, List.drop_eq_getElem_cons hi]; rfl
theorem arcC_frozen {l : List RArc} : ∀ x ∈ arcC l, x.frozen = true := by
  intro x hx
  obtain ⟨a, _, h⟩ := List.mem_flatMap.1 hx
  simp [RArc.cells] at h
  rcases h with rfl | rfl | rfl <;> rfl
@[simp] theorem arcsA_frozen {l : List RArc} : (arcsA l).frozen = true := by simp only [arcsA, AV.frozen]; exact frozens_iff.2 arcC_frozen
@[simp] theorem arcsL_frozen {l : List RArc} : (arcsL l).frozen = true := by unfold arcsL; split; rfl; simp
@[simp] theorem arcsL_one {l : List RArc} : (arcsL l).one = true := by unfold arcsL; split <;> rfl
@[simp] theorem arcsL_fit {l : List RArc} : (arcsL l).fit = true := by unfold arcsL; split <;> rfl
@[simp] theorem arcsL_cells {l : List RArc} : (arcsL l).cells = [arcsL l] := by unfold arcsL; split <;> rfl

/-! ### tame -/
def uM (x : Int) : Int := IntKind.u64.wrap x
def tameP (n : Int) (places : Nat) : Nat := 2 + (uM (IntKind.i64.wrap (n - 2)) % (places - 1 : Nat)).toNat
def tameArc (P : Nat) (x : RArc) : RArc :=
  let a := uM x.a % P
  let b := uM x.b % P
  ⟨a, if a = b then (a + 1) % P else b, uM x.c % 1000000001⟩
def tameArcs (P : Nat) (l : List RArc) (most : Nat) : List RArc := (l.take most).map (tameArc P)
theorem w_tame (x : RNet) (hs : x.arcs.length ≤ 4611686018427387904) (places most : Nat) (hp : 3 ≤ places ∧ places ≤ 24) (hm : most ≤ 200) : Pure Try.prog 12 [x.av, .int .i64 places, .int .i64 most] (netV (tameP x.n places) (tameArcs (tameP x.n places) x.arcs most)) := by
  refine pure_of (acalls_of Try.func12 rfl Try.call12 (by kernel_rfl) (by show _ ≤ (82 : Nat); simp) ?_)
  obtain ⟨n, arcs⟩ := x
  simp only [RNet.av, arcsA] at hs ⊢
  obtain ⟨N, hN⟩ : ∃ N, N = min arcs.length most := ⟨_, rfl⟩
  obtain ⟨R, hR⟩ : ∃ R, R = tameArcs (tameP n places) arcs most := ⟨_, rfl⟩
  have hRl : R.length = N := by rw [hR, hN]; simp [tameArcs]; omega
  have u1 := u64_nonneg (IntKind.i64.wrap (n - 2))
  have w1 : IntKind.i64.wrap ((places : Int) - 1) = (places : Int) - 1 := wrap_i64 (by omega) (by omega)
  have w2 : IntKind.u64.wrap ((places : Int) - 1) = (places : Int) - 1 := wrap_u64 (by omega) (by omega)
  have hp1 : ¬ (places : Int) - 1 = 0 := by omega
  have htm : (IntKind.u64.wrap (IntKind.i64.wrap (n - 2))).tmod ((places : Int) - 1) = IntKind.u64.wrap (IntKind.i64.wrap (n - 2)) % ((places : Int) - 1) := Int.tmod_eq_emod_of_nonneg u1.1
  have hmod1 := Int.emod_nonneg (IntKind.u64.wrap (IntKind.i64.wrap (n - 2))) hp1
  have hmod2 := Int.emod_lt_of_pos (IntKind.u64.wrap (IntKind.i64.wrap (n - 2))) (show (0 : Int) < (places : Int) - 1 by omega)
  obtain ⟨P, hP⟩ : ∃ P, P = tameP n places := ⟨_, rfl⟩
  have hPI : 2 + IntKind.u64.wrap (IntKind.i64.wrap (n - 2)) % ((places : Int) - 1) = (P : Int) := by
    rw [hP]; unfold tameP uM
    rw [show ((places - 1 : Nat) : Int) = (places : Int) - 1 from by omega]
    omega
  have w3 : IntKind.i64.wrap (IntKind.u64.wrap (IntKind.i64.wrap (n - 2)) % ((places : Int) - 1)) = IntKind.u64.wrap (IntKind.i64.wrap (n - 2)) % ((places : Int) - 1) := wrap_i64 (by omega) (by omega)
  have w4 : IntKind.i64.wrap (P : Int) = (P : Int) := wrap_i64 (by omega) (by omega)
  have hP2 : 2 ≤ P ∧ P ≤ 24 := by omega
  rw [← hR, ← hP]
  simp
  intro b3 hb3
  simp
  intro b6 hb6
  simp at hb6
  simp [hb6, w1, w2, hp1, htm, w3, hPI, w4]
  intro b7 hb7
  simp at hb7
  simp [hb6, hb7, splice]
  have hPne : ¬ (P : Int) = 0 := by omega
  have hPn0 : ¬ P = 0 := by omega
  have uP : IntKind.u64.wrap (P : Int) = (P : Int) := wrap_u64 (by omega) (by omega)
  refine awp_loop_g (γ := At) (fun q t h => (q.i ≤ N) ∧ ((q.o = none ↔ q.i = 0) ∧ ¬ q.o = some b3 ∧ ¬ q.o = some b6 ∧ ¬ q.o = some b7) ∧ t 2 = .int .i64 most ∧ t 3 = .ptr b3 0 ∧ t 6 = .ptr b6 0 ∧ t 7 = .ptr b7 0 ∧ t 8 = .int .i64 q.i ∧ h = (((AHeap.empty.upd b3 (.cells [.int .i64 n, .sl arcs.length (arcC arcs)])).upd b6 (.cells [.int .i64 0, .nilsl])).upd b7 (.cells [.int .i64 P, ownV q.o q.i 3])).updO q.o (arcC (R.take q.i))) (fun q => N - q.i) (⟨0, none⟩) (turnA_self (by simp [hb6, hb7])) ?_
  rintro q t hx ⟨hi, ho, h2, h3, h6, h7, h8, ex⟩
  rw [ex]
  clear ex
  obtain ⟨i, o⟩ := q
  simp only at h2 h3 h6 h7 h8 hi ho
  obtain ⟨ho1, ho2, ho3, ho4⟩ := ho
  by_cases hlt : i < N
  · have hwi : IntKind.i64.wrap ((i : Int) + 1) = (i : Int) + 1 := wrap_i64 (by omega) (by omega)
    have hin : i < arcs.length := by omega
    have hinI : (i : Int) < (arcs.length : Int) := by omega
    have him : i < most := by omega
    have himI : (i : Int) < (most : Int) := by omega
    have hiR : i < R.length := by omega
    have hat := arcC_at hin
    obtain ⟨y, hy⟩ : ∃ y, y = arcs[i] := ⟨_, rfl⟩
    have hts : arcC (R.take (i + 1)) = arcC (R.take i) ++ (tameArc P y).cells := by
      rw [List.take_succ_eq_append_getElem hiR, arcC_append]
      congr 1
      simp [hR, tameArcs, hy, ← hP, arcC]
    rw [← hy] at hat
    simp [h2, h3, h6, h7, h8, hin, hinI, him, himI, hb6, hb7, ho2, ho3, ho4, hat]
    intro b9 hb9
    simp [ho2, ho3, ho4] at hb9
    have ua := u64_nonneg y.a
    have ub := u64_nonneg y.b
    have uc := u64_nonneg y.c
    obtain ⟨A, hA⟩ : ∃ A : Nat, IntKind.u64.wrap y.a % (P : Int) = A := ⟨(IntKind.u64.wrap y.a % (P : Int)).toNat, by have := Int.emod_nonneg (IntKind.u64.wrap y.a) hPne; omega⟩
    obtain ⟨B, hB⟩ : ∃ B : Nat, IntKind.u64.wrap y.b % (P : Int) = B := ⟨(IntKind.u64.wrap y.b % (P : Int)).toNat, by have := Int.emod_nonneg (IntKind.u64.wrap y.b) hPne; omega⟩
    obtain ⟨D, hD⟩ : ∃ D : Nat, IntKind.u64.wrap y.c % 1000000001 = D := ⟨(IntKind.u64.wrap y.c % 1000000001).toNat, by omega⟩
    have hA2 : A < P := by have := Int.emod_lt_of_pos (IntKind.u64.wrap y.a) (show (0 : Int) < P by omega); omega
    have hB2 : B < P := by have := Int.emod_lt_of_pos (IntKind.u64.wrap y.b) (show (0 : Int) < P by omega); omega
    have hD2 : D < 1000000001 := by omega
    have ta : (IntKind.u64.wrap y.a).tmod (P : Int) = A := by rw [Int.tmod_eq_emod_of_nonneg ua.1, hA]
    have tb : (IntKind.u64.wrap y.b).tmod (P : Int) = B := by rw [Int.tmod_eq_emod_of_nonneg ub.1, hB]
    have tc : (IntKind.u64.wrap y.c).tmod 1000000001 = D := by rw [Int.tmod_eq_emod_of_nonneg uc.1, hD]
    have wA : IntKind.i64.wrap (A : Int) = A := wrap_i64 (by omega) (by omega)
    have wB : IntKind.i64.wrap (B : Int) = B := wrap_i64 (by omega) (by omega)
    have wD : IntKind.i64.wrap (D : Int) = D := wrap_i64 (by omega) (by omega)
    have wA1 : IntKind.i64.wrap ((A : Int) + 1) = (A : Int) + 1 := wrap_i64 (by omega) (by omega)
    have ta1 : ((A : Int) + 1).tmod (P : Int) = ((A + 1) % P : Nat) := by
      rw [Int.tmod_eq_emod_of_nonneg (by omega), show (A : Int) + 1 = ((A + 1 : Nat) : Int) from by omega]; rfl
    have tE : tameArc P y = ⟨A, if A = B then ((A + 1) % P : Nat) else B, D⟩ := by
      unfold tameArc uM
      simp only [hA, hB, hD]
      by_cases q : A = B
      · rw [if_pos (by rw [q]), if_pos q]
        rfl
      · rw [if_neg (by omega), if_neg q]
    rw [tE] at hts
    simp [h2, h3, h6, h7, h8, hb9, hb6, hb7, ho2, ho3, ho4]
    refine awp_draw_text (by kernel_rfl) [] [] (by kernel_rfl) (by kernel_rfl) (by simp) ?_
    simp [h2, h3, h6, h7, h8, hb9, hb6, hb7, ho2, ho3, ho4, hPne, hPn0, uP, ta, tb, tc, wA, wB, wD]
    intro b10 hb10
    simp [ho2, ho3, ho4, hb9] at hb10
    have hz : zcells [.int .i64 0, .int .i64 0, .int .i64 0] 1 = [.int .i64 0, .int .i64 0, .int .i64 0] := rfl
    by_cases q : A = B
    · subst q
      rw [if_pos rfl] at hts
      simp [h2, h3, h6, h7, h8, hb10, hb9, hb6, hb7, ho2, ho3, ho4, splice, hPne, hPn0, wA1, ta1, hz]
      intro b14 hb14
      simp [hb10, hb9, ho2, ho3, ho4] at hb14
      simp [h2, h3, h6, h7, h8, hb14, hb10, hb9, hb6, hb7, ho2, ho3, ho4]
      refine appendA_updO (by omega) (by omega) (fun e => by rw [ho1.1 e]; rfl) (by simp; omega) (by simp) (by cases o with | none => simp | some b => simp at hb14 hb10 hb9 ho2 ho3 ho4 ⊢; grind) fun b' hb' => ?_
      simp [hb14, hb10, hb9, hb6, hb7, ho2, ho3, ho4] at hb'
      simp [h2, h3, h6, h7, h8, hb', hb14, hb10, hb9, hb6, hb7, ho2, ho3, ho4]
      simp [RArc.cells] at hts
      rw [← hts]
      refine turnA_to ((((AHeap.empty.upd b3 (.cells [.int .i64 n, .sl arcs.length (arcC arcs)])).upd b6 (.cells [.int .i64 0, .nilsl])).upd b7 (.cells [.int .i64 P, .osl b' 0 (i + 1) 3])).updO (some b') (arcC (R.take (i + 1)))) ?_ ⟨⟨i + 1, some b'⟩, by simp only; omega, by simp only; omega, by simp [hb'], by simp [h2, h3, h6, h7, h8, hwi]⟩
      simp
      refine Drop.both (Drop.new (Drop.new (Drop.new (Drop.refl _) ?_) ?_) ?_)
      all_goals simp [hb9, hb10, hb14]
    · have qI : ¬ (A : Int) = (B : Int) := by omega
      rw [if_neg q] at hts
      simp [h2, h3, h6, h7, h8, hb10, hb9, hb6, hb7, ho2, ho3, ho4, splice, q, qI, hz]
      intro b14 hb14
      simp [hb10, hb9, ho2, ho3, ho4] at hb14
      simp [h2, h3, h6, h7, h8, hb14, hb10, hb9, hb6, hb7, ho2, ho3, ho4]
      refine appendA_updO (by omega) (by omega) (fun e => by rw [ho1.1 e]; rfl) (by simp; omega) (by simp) (by cases o with | none => simp | some b => simp at hb14 hb10 hb9 ho2 ho3 ho4 ⊢; grind) fun b' hb' => ?_
      simp [hb14, hb10, hb9, hb6, hb7, ho2, ho3, ho4] at hb'
      simp [h2, h3, h6, h7, h8, hb', hb14, hb10, hb9, hb6, hb7, ho2, ho3, ho4]
      simp [RArc.cells] at hts
      rw [← hts]
      refine turnA_to ((((AHeap.empty.upd b3 (.cells [.int .i64 n, .sl arcs.length (arcC arcs)])).upd b6 (.cells [.int .i64 0, .nilsl])).upd b7 (.cells [.int .i64 P, .osl b' 0 (i + 1) 3])).updO (some b') (arcC (R.take (i + 1)))) ?_ ⟨⟨i + 1, some b'⟩, by simp only; omega, by simp only; omega, by simp [hb'], by simp [h2, h3, h6, h7, h8, hwi]⟩
      simp
      refine Drop.both (Drop.new (Drop.new (Drop.new (Drop.refl _) ?_) ?_) ?_)
      all_goals simp [hb9, hb10, hb14]
  · have hiN : i = N := by omega
    have hRt : R.take i = R := List.take_of_length_le (by omega)
    have fin : finA (fun r' _ => r' = netV P R) (.agg [.int .i64 P, ownV o i 3]) ((((AHeap.empty.upd b3 (.cells [.int .i64 n, .sl arcs.length (arcC arcs)])).upd b6 (.cells [.int .i64 P, ownV o i 3])).upd b7 (.cells [.int .i64 P, ownV o i 3])).updO o (arcC R)) := by
      cases o with
      | none =>
        have hi0 := ho1.1 rfl
        have hRe : R = [] := List.eq_nil_of_length_eq_zero (by omega)
        refine finA_drop ?_
        rw [hRe]
        rfl
      | some b =>
        have hRne : ¬ R = [] := fun e => by
          have := ho1.2
          rw [e] at hRl
          simp at hRl
          have := this (by omega)
          cases this
        refine finA_all 3 ?_
        rw [frz_agg]
        simp only [List.map_cons, List.map_nil, ownV_some, updO_some]
        rw [frz_osl (by simp)]
        simp [netV, arcsL, arcsA, hRne, hiN, hRl]
        rw [map_frozen arcC_frozen]
        exact List.take_of_length_le (by simp; omega)
    by_cases c7 : i < arcs.length
    · have c7I : (i : Int) < (arcs.length : Int) := by omega
      have c8 : ¬ i < most := by omega
      have c8I : ¬ (i : Int) < (most : Int) := by omega
      simp [h2, h3, h6, h7, h8, c7, c7I, c8, c8I, hb6, hb7, ho2, ho3, ho4]
      rw [hRt]
      exact fin
    · have c7I : ¬ (i : Int) < (arcs.length : Int) := by omega
      simp [h2, h3, h6, h7, h8, c7, c7I, hb6, hb7, ho2, ho3, ho4]
      rw [hRt]
      exact fin
end Go.Proofs
