/-
  Pair: graphs, tamed.
-/
import Derived.Test.YtkdhgablioljnaaPaD
set_option linter.unusedSimpArgs false
set_option linter.unusedVariables false
set_option linter.unusedSectionVars false
namespace Go.Proofs
open Go Go.AH
set_option maxRecDepth 10000
set_option maxHeartbeats 4000000

theorem l_give (n : Int) (l : List Ed) : Pure Try.prog 23 [gV n l] (gV n l) := by
  refine pure_of (acalls_of Try.func23 rfl Try.call23 (by kernel_rfl) (by show _ ≤ (8 : Nat); simp) ?_)
  obtain ⟨V, hV⟩ : ∃ V, V = edL l := ⟨_, rfl⟩
  have hV1 : V.one = true := by rw [hV]; simp
  have hV2 : V.fit = true := by rw [hV]; simp
  have hV3 : V.cells = [V] := by rw [hV]; simp
  rw [show gV n l = .agg [.int .i64 n, V] from by rw [hV]; rfl]
  simp [hV1, hV2, hV3]
  intro b1 hb1
  simp
  intro b2 hb2
  simp at hb2
  simp [hb2, splice, hV1, hV2, hV3]
  exact finA_drop rfl
theorem l_raw (l : List Int) (most : Nat) (hl : l.length ≤ 4611686018427387904) (hm : most ≤ 1000) : Pure Try.prog 24 [intS l, .int .i64 most] (intL (l.take most)) := by
  refine pure_of (acalls_of Try.func24 rfl Try.call24 (by kernel_rfl) (by show _ ≤ (14 : Nat); simp) ?_)
  unfold intS
  obtain ⟨N, hN⟩ : ∃ N, N = min l.length most := ⟨_, rfl⟩
  have hmin : (if most < l.length then (most : Int) else (l.length : Int)) = (N : Int) := by split <;> omega
  have c1 : (0 : Int) ≤ (N : Int) := by omega
  have hN1 : (N : Int) ≤ (l.length : Int) := by omega
  have hNl : N ≤ l.length := by omega
  have htk : l.take most = l.take N := by
    rw [hN]
    rcases Nat.le_total l.length most with h | h
    · rw [Nat.min_eq_left h, List.take_of_length_le h, List.take_length]
    · rw [Nat.min_eq_right h]
  have htc : (intC l).take N = intC (l.take N) := by simp [intC, List.map_take]
  have hml : min N l.length = N := by omega
  rw [htk]
  simp [hmin, hN1, hNl, htc, hml]
  constructor
  · intro h0
    subst h0
    refine finA_drop ?_
    simp [intL]
  · intro h0
    refine ⟨by omega, fun b hb => ?_⟩
    simp
    refine finA_all 2 ?_
    rw [frz_osl (by simp)]
    have hne : ¬ l.take N = [] := fun e => by
      have := congrArg List.length e
      simp at this
      rcases this with e | e
      · exact h0 e
      · subst e; simp at hNl; exact h0 hNl
    simp [intL, hne, hml]
    rw [map_frozen intC_frozen]
    exact List.take_of_length_le (by simp; omega)

def uM (x : Int) : Int := IntKind.u64.wrap x
def tameP (n : Int) (points : Nat) : Nat := 1 + (uM (IntKind.i64.wrap (n - 1)) % (points : Int)).toNat
def tameE (P : Nat) (most : Nat) : List Ed → List Ed → List Ed
  | out, [] => out
  | out, e :: l => if out.length < most then tameE P most (if uM e.1 % P = uM e.2 % P ∨ joinB out (uM e.1 % P) (uM e.2 % P) = true then out else out ++ [(uM e.1 % P, uM e.2 % P)]) l else out
theorem joinB_iff {l : List Ed} {a b : Int} : joinB l a b = true ↔ ∃ e ∈ l, sameE e (a, b) := by
  unfold joinB sameE
  rw [List.any_eq_true]
  simp
theorem tameE_ok {P : Nat} (hP : 0 < P) (most : Nat) : ∀ (l out : List Ed), GOk P out → out.length ≤ most → GOk P (tameE P most out l) ∧ (tameE P most out l).length ≤ most
  | [], out, g, h => ⟨g, h⟩
  | e :: l, out, g, h => by
    unfold tameE
    split
    · next hlt =>
      split
      · exact tameE_ok hP most l out g h
      · next hn =>
        refine tameE_ok hP most l _ (GOk.snoc.2 ⟨g, ?_, ?_⟩) (by simp; omega)
        · have p : ¬ (P : Int) = 0 := by omega
          have h1 := Int.emod_nonneg (uM e.1) p
          have h2 := Int.emod_lt_of_pos (uM e.1) (show (0 : Int) < P by omega)
          have h3 := Int.emod_nonneg (uM e.2) p
          have h4 := Int.emod_lt_of_pos (uM e.2) (show (0 : Int) < P by omega)
          exact ⟨h1, h2, h3, h4, fun q => hn (.inl q)⟩
        · intro y hy q
          exact hn (.inr (joinB_iff.2 ⟨y, hy, q⟩))
    · exact ⟨g, h⟩
theorem tameP_le {n : Int} {points : Nat} (hp : 0 < points) : 1 ≤ tameP n points ∧ tameP n points ≤ points := by
  unfold tameP
  have := Int.emod_lt_of_pos (uM (IntKind.i64.wrap (n - 1))) (show (0 : Int) < points by omega)
  omega
theorem l_JoinedO (P : Int) (out : List Ed) (o : Option Nat) (a b : Int) (H : AHeap) (hl : out.length ≤ 1000000) (ho : o = none ↔ out = []) (hb : ∀ x, o = some x → H x = some (.cells (edC out))) :
    ACalls Try.prog 62 [.agg [.int .i64 P, ownV o out.length 2], .int .i64 a, .int .i64 b] H fun r h' => r = .bool (joinB out a b) ∧ h' = H := by
  refine Pure.lend (k := 3) (r := .bool (joinB out a b)) rfl ?_ ⟨rfl, rfl⟩
  have e : ([.agg [.int .i64 P, ownV o out.length 2], .int .i64 a, .int .i64 b] : List AV).map (frzF 3 H AHeap.empty) = [gV P out, .int .i64 a, .int .i64 b] := by
    simp only [List.map_cons, List.map_nil, frz_agg, frz_int]
    congr 1
    unfold gV
    congr 1
    congr 1
    congr 1
    cases o with
    | none => rw [ho.1 rfl]; simp [edL]
    | some x =>
      have hne : ¬ out = [] := fun q => nomatch ho.2 q
      rw [ownV_some, frz_osl (by simp), cellsAt_eq (hb x rfl)]
      simp [edL, hne]
      rw [map_frozen edC_frozen]
      exact List.take_of_length_le (by simp)
  rw [e]
  exact w_Joined P out hl a b

structure At2 where
  i : Nat
  o : Option Nat
  l : List Ed
theorem w_tame (n : Int) (l : List Ed) (hl : l.length ≤ 4611686018427387904) (points most : Nat) (hp : 1 ≤ points ∧ points ≤ 40) (hm : most ≤ 300) : Pure Try.prog 22 [.agg [.int .i64 n, edS l], .int .i64 points, .int .i64 most] (gV (tameP n points) (tameE (tameP n points) most [] l)) := by
  refine pure_of (acalls_of Try.func22 rfl Try.call22 (by kernel_rfl) (by show _ ≤ (80 : Nat); simp) ?_)
  obtain ⟨P, hP⟩ : ∃ P, P = tameP n points := ⟨_, rfl⟩
  obtain ⟨R, hR⟩ : ∃ R, R = tameE P most [] l := ⟨_, rfl⟩
  have hP2 := tameP_le (n := n) hp.1
  rw [← hP] at hP2
  have u1 := u64_nonneg (IntKind.i64.wrap (n - 1))
  have w2 : IntKind.u64.wrap (points : Int) = (points : Int) := wrap_u64 (by omega) (by omega)
  have hp1 : ¬ (points : Int) = 0 := by omega
  have hpN : ¬ points = 0 := by omega
  have htm : (IntKind.u64.wrap (IntKind.i64.wrap (n - 1))).tmod (points : Int) = IntKind.u64.wrap (IntKind.i64.wrap (n - 1)) % (points : Int) := Int.tmod_eq_emod_of_nonneg u1.1
  have hmod1 := Int.emod_nonneg (IntKind.u64.wrap (IntKind.i64.wrap (n - 1))) hp1
  have hmod2 := Int.emod_lt_of_pos (IntKind.u64.wrap (IntKind.i64.wrap (n - 1))) (show (0 : Int) < (points : Int) by omega)
  have hPI : 1 + IntKind.u64.wrap (IntKind.i64.wrap (n - 1)) % (points : Int) = (P : Int) := by
    rw [hP]; unfold tameP uM; omega
  have w3 : IntKind.i64.wrap (IntKind.u64.wrap (IntKind.i64.wrap (n - 1)) % (points : Int)) = IntKind.u64.wrap (IntKind.i64.wrap (n - 1)) % (points : Int) := wrap_i64 (by omega) (by omega)
  have w4 : IntKind.i64.wrap (P : Int) = (P : Int) := wrap_i64 (by omega) (by omega)
  rw [← hP, ← hR]
  unfold edS
  simp
  intro b3 hb3
  simp
  intro b6 hb6
  simp at hb6
  simp [hb6, w2, hp1, hpN, htm, w3, hPI, w4]
  intro b7 hb7
  simp at hb7
  simp [hb6, hb7, splice]
  have hPne : ¬ (P : Int) = 0 := by omega
  have hPn0 : ¬ P = 0 := by omega
  have uP : IntKind.u64.wrap (P : Int) = (P : Int) := wrap_u64 (by omega) (by omega)
  refine awp_loop_g (γ := At2) (fun q t h => (q.i ≤ l.length) ∧ ((q.o = none ↔ q.l = []) ∧ ¬ q.o = some b3 ∧ ¬ q.o = some b6 ∧ ¬ q.o = some b7) ∧ (R = tameE P most q.l (l.drop q.i)) ∧ (q.l.length ≤ most ∧ GOk P q.l) ∧ t 2 = .int .i64 most ∧ t 3 = .ptr b3 0 ∧ t 6 = .ptr b6 0 ∧ t 7 = .ptr b7 0 ∧ t 8 = .int .i64 q.i ∧ h = (((AHeap.empty.upd b3 (.cells [.int .i64 n, .sl l.length (edC l)])).upd b6 (.cells [.int .i64 0, .nilsl])).upd b7 (.cells [.int .i64 P, ownV q.o q.l.length 2])).updO q.o (edC q.l)) (fun q => l.length - q.i) (⟨0, none, []⟩) (turnA_self (by simp [hb6, hb7, GOk.nil]; exact hR)) ?_
  rintro q t hx ⟨hi, ho, hr, hg, h2, h3, h6, h7, h8, ex⟩
  rw [ex]
  clear ex
  obtain ⟨i, o, L⟩ := q
  simp only at h2 h3 h6 h7 h8 hi ho hr hg
  obtain ⟨ho1, ho2, ho3, ho4⟩ := ho
  obtain ⟨hLm, hLg⟩ := hg
  have hlenL : ∀ h, lenA Try.prog h 42 (.sl l.length (edC l)) = some (.int .i64 (l.length : Int)) := fun h => by simp
  have hlenO : ∀ h, lenA Try.prog h 42 (ownV o L.length 2) = some (.int .i64 (L.length : Int)) := by
    intro h
    cases o with
    | none => rw [ho1.1 rfl]; simp
    | some b => simp
  have fin : finA (fun r' _ => r' = gV P L) (.agg [.int .i64 P, ownV o L.length 2]) ((((AHeap.empty.upd b3 (.cells [.int .i64 n, .sl l.length (edC l)])).upd b6 (.cells [.int .i64 P, ownV o L.length 2])).upd b7 (.cells [.int .i64 P, ownV o L.length 2])).updO o (edC L)) := by
    cases o with
    | none =>
      refine finA_drop ?_
      rw [ho1.1 rfl]
      rfl
    | some b =>
      have hne : ¬ L = [] := fun e => nomatch ho1.2 e
      refine finA_all 3 ?_
      rw [frz_agg]
      simp only [List.map_cons, List.map_nil, ownV_some, updO_some]
      rw [frz_osl (by simp)]
      simp [gV, edL, hne]
      rw [map_frozen edC_frozen]
      exact List.take_of_length_le (by simp)
  by_cases hlt : i < l.length
  · have hwi : IntKind.i64.wrap ((i : Int) + 1) = (i : Int) + 1 := wrap_i64 (by omega) (by omega)
    have hltI : (i : Int) < (l.length : Int) := by omega
    obtain ⟨x, hx⟩ : ∃ x, l[i]? = some x := ⟨_, List.getElem?_eq_getElem hlt⟩
    have hat := edC_at hx
    have hdr : l.drop i = x :: l.drop (i + 1) := by
      rw [List.drop_eq_getElem_cons hlt]; congr 1
      have := List.getElem?_eq_getElem hlt; rw [hx] at this; exact (Option.some.inj this).symm
    rw [hdr, tameE] at hr
    by_cases hlm : L.length < most
    · have hlmI : (L.length : Int) < (most : Int) := by omega
      rw [if_pos hlm] at hr
      simp [h2, h3, h6, h7, h8, hlt, hltI, hb6, hb7, ho2, ho3, ho4, hlenO, hlenL, hlmI, hlm, -lenA]
      refine awp_draw_text (by kernel_rfl) [] [] (by kernel_rfl) (by kernel_rfl) (by simp) ?_
      have ua := u64_nonneg x.1
      have ub := u64_nonneg x.2
      obtain ⟨A, hA⟩ : ∃ A : Nat, IntKind.u64.wrap x.1 % (P : Int) = A := ⟨(IntKind.u64.wrap x.1 % (P : Int)).toNat, by have := Int.emod_nonneg (IntKind.u64.wrap x.1) hPne; omega⟩
      obtain ⟨B, hB⟩ : ∃ B : Nat, IntKind.u64.wrap x.2 % (P : Int) = B := ⟨(IntKind.u64.wrap x.2 % (P : Int)).toNat, by have := Int.emod_nonneg (IntKind.u64.wrap x.2) hPne; omega⟩
      have hA2 : A < P := by have := Int.emod_lt_of_pos (IntKind.u64.wrap x.1) (show (0 : Int) < P by omega); omega
      have hB2 : B < P := by have := Int.emod_lt_of_pos (IntKind.u64.wrap x.2) (show (0 : Int) < P by omega); omega
      have ta : (IntKind.u64.wrap x.1).tmod (P : Int) = A := by rw [Int.tmod_eq_emod_of_nonneg ua.1, hA]
      have tb : (IntKind.u64.wrap x.2).tmod (P : Int) = B := by rw [Int.tmod_eq_emod_of_nonneg ub.1, hB]
      have wA : IntKind.i64.wrap (A : Int) = A := wrap_i64 (by omega) (by omega)
      have wB : IntKind.i64.wrap (B : Int) = B := wrap_i64 (by omega) (by omega)
      rw [show uM x.1 % (P : Int) = (A : Int) from hA, show uM x.2 % (P : Int) = (B : Int) from hB] at hr
      simp [h2, h3, h6, h7, h8, hlt, hltI, hat, hb6, hb7, ho2, ho3, ho4, uP, ta, tb, wA, wB, hPne, hPn0]
      by_cases hAB : A = B
      · have hABI : (A : Int) = (B : Int) := by omega
        rw [if_pos (.inl hABI)] at hr
        simp [h2, h3, h6, h7, h8, hAB]
        exact turnA_self ⟨⟨i + 1, o, L⟩, by simp only; omega, by simp only; omega, ⟨ho1, ho2, ho3, ho4⟩, hr, ⟨hLm, hLg⟩, by simp [h2, h3, h6, h7, h8, hwi]⟩
      · have hABI : ¬ (A : Int) = (B : Int) := by omega
        simp [h2, h3, h6, h7, h8, hAB, hABI, hb6, hb7, ho2, ho3, ho4]
        refine (l_JoinedO P L o A B _ (by omega) ho1 (fun y e => by subst e; simp)).use ?_
        obtain ⟨J, hJ⟩ : ∃ J, joinB L A B = J := ⟨_, rfl⟩
        rw [hJ] at hr
        simp [h2, h3, h6, h7, h8, hJ]
        cases J with
        | true =>
          rw [if_pos (.inr rfl)] at hr
          simp [h2, h3, h6, h7, h8]
          exact turnA_self ⟨⟨i + 1, o, L⟩, by simp only; omega, by simp only; omega, ⟨ho1, ho2, ho3, ho4⟩, hr, ⟨hLm, hLg⟩, by simp [h2, h3, h6, h7, h8, hwi]⟩
        | false =>
          rw [if_neg (by simp [hABI])] at hr
          have hsn : GOk P (L ++ [((A : Int), (B : Int))]) := GOk.snoc.2 ⟨hLg, ⟨by simp only; omega, by simp only; omega, by simp only; omega, by simp only; omega, hABI⟩, fun y hy q => by
            have := joinB_iff.2 ⟨y, hy, q⟩
            rw [hJ] at this; cases this⟩
          have hz : zcells [.int .i64 0, .int .i64 0] 1 = [.int .i64 0, .int .i64 0] := rfl
          simp [h2, h3, h6, h7, h8, hb6, hb7, ho2, ho3, ho4, splice, hz]
          intro b14 hb14
          simp [hb6, hb7, ho2, ho3, ho4] at hb14
          simp [h2, h3, h6, h7, h8, hb14, hb6, hb7, ho2, ho3, ho4]
          refine appendA_updO (by omega) (by omega) (fun e => by rw [ho1.1 e]; rfl) (by simp) (by simp) (by cases o with | none => simp | some b => simp at hb14 ho2 ho3 ho4 ⊢; grind) fun b' hb' => ?_
          simp [hb14, hb6, hb7, ho2, ho3, ho4] at hb'
          simp [h2, h3, h6, h7, h8, hb', hb14, hb6, hb7, ho2, ho3, ho4]
          have hts : edC L ++ [.int .i64 (A : Int), .int .i64 (B : Int)] = edC (L ++ [((A : Int), (B : Int))]) := by simp
          rw [hts]
          refine turnA_to ((((AHeap.empty.upd b3 (.cells [.int .i64 n, .sl l.length (edC l)])).upd b6 (.cells [.int .i64 0, .nilsl])).upd b7 (.cells [.int .i64 P, .osl b' 0 (L.length + 1) 2])).updO (some b') (edC (L ++ [((A : Int), (B : Int))]))) ?_ ⟨⟨i + 1, some b', L ++ [((A : Int), (B : Int))]⟩, by simp only; omega, by simp only; omega, ⟨by simp, by simp [hb'], by simp [hb'], by simp [hb']⟩, hr, ⟨by simp; omega, hsn⟩, by simp [h2, h3, h6, h7, h8, hwi]⟩
          simp
          exact Drop.both (Drop.new (Drop.refl _) (by simp [hb14]))
    · have hlmI : ¬ (L.length : Int) < (most : Int) := by omega
      rw [if_neg hlm] at hr
      simp [h2, h3, h6, h7, h8, hlt, hltI, hb6, hb7, ho2, ho3, ho4, hlenO, hlenL, hlmI, hlm, -lenA]
      rw [hr]
      exact fin
  · obtain rfl : i = l.length := by omega
    rw [List.drop_length, tameE] at hr
    simp [h2, h3, h6, h7, h8, hb6, hb7, ho2, ho3, ho4]
    rw [hr]
    exact fin
end Go.Proofs
