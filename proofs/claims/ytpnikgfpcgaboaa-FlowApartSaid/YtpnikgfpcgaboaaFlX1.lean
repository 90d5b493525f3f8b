/-
  Walk and law: FlowSums.
-/
import Derived.Test.YtpnikgfpcgaboaaF2
import Derived.Test.YtpnikgfpcgaboaaFlAwk
set_option linter.unusedSimpArgs false
set_option linter.unusedVariables false
set_option linter.unusedSectionVars false
namespace Go.Proofs
open Go Go.AH
set_option maxRecDepth 10000
set_option maxHeartbeats 4000000

theorem okFrom_mem (P s : Nat) : okFrom P (-1) ((memL P s).map fun x : Nat => (x : Int)) = true := by
  have key : ∀ (L : List Nat) (last : Int), (∀ x ∈ L, last < (x : Int)) → L.Pairwise (· < ·) → (∀ x ∈ L, x < P) → okFrom P last (L.map fun x : Nat => (x : Int)) = true := by
    intro L
    induction L with
    | nil => intro last _ _ _; rfl
    | cons y L ih =>
      intro last h1 h2 h3
      have a1 := h1 y (by simp)
      have a2 := h3 y (by simp)
      simp only [List.map_cons, okFrom, Bool.and_eq_true, decide_eq_true_eq]
      refine ⟨⟨a1, by omega⟩, ih _ (fun x hx => ?_) (List.pairwise_cons.1 h2).2 fun x hx => h3 x (by simp [hx])⟩
      have := (List.pairwise_cons.1 h2).1 x hx
      omega
  refine key _ _ (fun x _ => by omega) ?_ fun x hx => ?_
  · unfold memL
    exact List.Pairwise.filter _ List.pairwise_lt_range
  · unfold memL at hx
    simpa using (List.mem_filter.1 hx).1
theorem tameArc_ok {P : Nat} (hP : 2 ≤ P) (x : RArc) : arcOk P (tameArc P x) = true := by
  have h0 : (P : Int) ≠ 0 := by omega
  have h1 : (0 : Int) < P := by omega
  have a1 := Int.emod_nonneg (uM x.a) h0
  have a2 := Int.emod_lt_of_pos (uM x.a) h1
  have b1 := Int.emod_nonneg (uM x.b) h0
  have b2 := Int.emod_lt_of_pos (uM x.b) h1
  have c1 : 0 ≤ uM x.c % 1000000001 := Int.emod_nonneg _ (by omega)
  have c2 : uM x.c % 1000000001 < 1000000001 := Int.emod_lt_of_pos _ (by omega)
  have key : tameArc P x = ⟨uM x.a % P, if uM x.a % (P : Int) = uM x.b % P then (uM x.a % (P : Int) + 1) % P else uM x.b % P, uM x.c % 1000000001⟩ := rfl
  rw [key]
  generalize uM x.a % (P : Int) = A at *
  generalize uM x.b % (P : Int) = B at *
  generalize uM x.c % 1000000001 = C at *
  have fin : ∀ D : Int, 0 ≤ D → D < P → A ≠ D → arcOk P ⟨A, D, C⟩ = true := fun D d1 d2 d3 => by
    unfold arcOk
    simp only [Bool.and_eq_true, decide_eq_true_eq]
    exact ⟨⟨⟨⟨⟨⟨a1, d1⟩, a2⟩, d2⟩, d3⟩, c1⟩, by omega⟩
  by_cases h : A = B
  · rw [if_pos h]
    refine fin _ (Int.emod_nonneg _ h0) (Int.emod_lt_of_pos _ h1) ?_
    by_cases e : A + 1 < P
    · rw [Int.emod_eq_of_lt (by omega) e]; omega
    · rw [show A + 1 = (P : Int) from by omega, Int.emod_self]; omega
  · rw [if_neg h]
    exact fin _ b1 b2 h
theorem tame_chk {P : Nat} (hP : 2 ≤ P ∧ P ≤ 24) (l : List RArc) (most : Nat) (hm : most ≤ 200) : chkNet P (tameArcs P l most) = 0 := by
  unfold chkNet
  rw [if_neg]
  rintro (h | h | h | h)
  · omega
  · omega
  · simp [tameArcs] at h; omega
  · rw [List.any_eq_true] at h
    obtain ⟨y, hy, h⟩ := h
    obtain ⟨z, _, rfl⟩ := List.mem_map.1 hy
    rw [tameArc_ok hP.1] at h; cases h
theorem w_FlowSums (x : RNet) (hs : x.arcs.length ≤ 4611686018427387904) (a b : Int) : Pure Try.prog 3 [x.av, .int .i64 a, .int .i64 b] (.bool true) := by
  refine pure_of (acalls_of Try.func3 rfl Try.call3 (by kernel_rfl) (by show _ ≤ (102 : Nat); simp) ?_)
  have ct := w_tame x hs 20 60 (by omega) (by omega)
  obtain ⟨P, hP⟩ : ∃ P, P = tameP x.n 20 := ⟨_, rfl⟩
  obtain ⟨R, hR⟩ : ∃ R, R = tameArcs P x.arcs 60 := ⟨_, rfl⟩
  rw [← hP, ← hR] at ct
  have hP2 : 2 ≤ P ∧ P ≤ 20 := by
    rw [hP]; unfold tameP
    have := Int.emod_nonneg (uM (IntKind.i64.wrap (x.n - 2))) (show ((20 - 1 : Nat) : Int) ≠ 0 by omega)
    have := Int.emod_lt_of_pos (uM (IntKind.i64.wrap (x.n - 2))) (show (0 : Int) < ((20 - 1 : Nat) : Int) by omega)
    omega
  unfold netV at ct
  obtain ⟨V, hV⟩ : ∃ V, V = arcsL R := ⟨_, rfl⟩
  have hV1 : V.one = true := by rw [hV]; simp
  have hV2 : V.fit = true := by rw [hV]; simp
  have hV3 : V.cells = [V] := by rw [hV]; simp
  rw [← hV] at ct
  have hx : x.av = .agg [.int .i64 x.n, arcsA x.arcs] := rfl
  rw [hx] at ct ⊢
  have w1 : IntKind.u64.wrap (P : Int) = P := wrap_u64 (by omega) (by omega)
  have hpow : 2 ^ P ≤ 2 ^ 20 := Nat.pow_le_pow_right (by omega) hP2.2
  have hpow1 : 1 ≤ 2 ^ P := Nat.one_le_two_pow
  have w2 : IntKind.i64.wrap (2 ^ min P IntKind.i64.bits) = ((2 ^ P : Nat) : Int) := by
    rw [show min P IntKind.i64.bits = P from Nat.min_eq_left (show P ≤ 64 by omega), show ((2 : Int) ^ P) = ((2 ^ P : Nat) : Int) from by simp]
    exact wrap_i64 (by omega) (by omega)
  have w3 : IntKind.i64.wrap (((2 ^ P : Nat) : Int) - 1) = ((2 ^ P - 1 : Nat) : Int) := by
    rw [show (((2 ^ P : Nat) : Int) - 1) = ((2 ^ P - 1 : Nat) : Int) from by omega]
    exact wrap_i64 (by omega) (by omega)
  have w3' : IntKind.i64.wrap ((2 : Int) ^ P - 1) = ((2 ^ P - 1 : Nat) : Int) := by
    rw [← w3]; simp
  have w4 : (((2 ^ P - 1 : Nat) : Int) % 2 ^ IntKind.i64.bits).toNat = 2 ^ P - 1 := by
    rw [show IntKind.i64.bits = 64 from rfl, Int.emod_eq_of_lt (by omega) (by omega)]; rfl
  obtain ⟨p, hp⟩ : ∃ p, p = (a % 2 ^ IntKind.i64.bits).toNat &&& (2 ^ P - 1) := ⟨_, rfl⟩
  obtain ⟨q, hq⟩ : ∃ q, q = (b % 2 ^ IntKind.i64.bits).toNat &&& (2 ^ P - 1) := ⟨_, rfl⟩
  have hp20 : p < 2 ^ 20 := by rw [hp]; exact Nat.lt_of_le_of_lt Nat.and_le_right (by omega)
  have hq20 : q < 2 ^ 20 := by rw [hq]; exact Nat.lt_of_le_of_lt Nat.and_le_right (by omega)
  have wp : IntKind.i64.wrap (p : Int) = p := wrap_i64 (by omega) (by omega)
  have wq : IntKind.i64.wrap (q : Int) = q := wrap_i64 (by omega) (by omega)
  obtain ⟨M, hM⟩ : ∃ M : Int, M = ((2 ^ P - 1 : Nat) : Int) := ⟨_, rfl⟩
  rw [← hM] at w3 w3' w4
  simp
  intro b3 hb3
  simp [arcsA]
  try simp [arcsA] at ct
  refine ct.use ?_
  simp
  intro b7 hb7
  simp at hb7
  simp [hb7, hV1, hV2, hV3, w1, w2, w3, w3', w4, ← hp, ← hq, wp, wq]
  have hPs : ∀ s : Nat, s < 2 ^ 20 → Pure Try.prog 15 [.int .i64 (P : Int), .int .i64 (s : Int)] (natL (memL P s)) := fun s h => l_Members P s (by omega) (by omega)
  have hcap : ∀ s : Nat, Pure Try.prog 13 [.agg [.int .i64 (P : Int), V], natL (memL P s)] (.tup [.int .i64 (capF R ((memL P s).map fun x : Nat => (x : Int))), .int .i64 0]) := by
    intro s
    have c := w_Capacity P R (by rw [hR]; simp [tameArcs]; omega) ((memL P s).map fun x : Nat => (x : Int)) (by have := memL_len P s; simp; omega)
    unfold capacityF at c
    rw [show chkNet P R = 0 from by rw [hR]; exact tame_chk ⟨hP2.1, by omega⟩ _ _ (by omega), okFrom_mem, if_neg (by simp), if_pos rfl, ← natL_int] at c
    unfold netV at c
    rw [← hV] at c
    exact c
  have hnet : Pure Try.prog 14 [.agg [.int .i64 (P : Int), V]] (.agg [.int .i64 (P : Int), V]) := by
    have c := l_net P R (by rw [hR]; simp [tameArcs]; omega)
    unfold netV at c
    rw [← hV] at c
    exact c
  obtain ⟨u, hu⟩ : ∃ u, u = p ||| q := ⟨_, rfl⟩
  obtain ⟨z, hz⟩ : ∃ z, z = p &&& q := ⟨_, rfl⟩
  have hu20 : u < 2 ^ 20 := by rw [hu]; exact Nat.or_lt_two_pow hp20 hq20
  have hz20 : z < 2 ^ 20 := by rw [hz]; exact Nat.lt_of_le_of_lt Nat.and_le_left hp20
  have wu : IntKind.i64.wrap (u : Int) = u := wrap_i64 (by omega) (by omega)
  have wz : IntKind.i64.wrap (z : Int) = z := wrap_i64 (by omega) (by omega)
  have ep : ((p : Int) % 2 ^ IntKind.i64.bits).toNat = p := by rw [show IntKind.i64.bits = 64 from rfl, Int.emod_eq_of_lt (by omega) (by omega)]; rfl
  have eq : ((q : Int) % 2 ^ IntKind.i64.bits).toNat = q := by rw [show IntKind.i64.bits = 64 from rfl, Int.emod_eq_of_lt (by omega) (by omega)]; rfl
  have ep' : p % 2 ^ IntKind.i64.bits = p := Nat.mod_eq_of_lt (by rw [show IntKind.i64.bits = 64 from rfl]; omega)
  have eq' : q % 2 ^ IntKind.i64.bits = q := Nat.mod_eq_of_lt (by rw [show IntKind.i64.bits = 64 from rfl]; omega)
  refine awp_draw_text (by kernel_rfl) [34, 38, 39] [(.fn (.func 14) [] [], [.agg [.int .i64 (P : Int), V]], .agg [.int .i64 (P : Int), V]), (.fn (.func 15) [] [], [.int .i64 (P : Int), .int .i64 (p : Int)], natL (memL P p)), (.fn (.func 13) [] [], [.agg [.int .i64 (P : Int), V], natL (memL P p)], .tup [.int .i64 (capF R ((memL P p).map fun x : Nat => (x : Int))), .int .i64 0])] (by kernel_rfl) (by kernel_rfl) (by simp; exact ⟨PureV.of hnet, PureV.of (hPs p hp20), PureV.of (hcap p)⟩) ?_
  simp [hb7, hV1, hV2, hV3, ep', eq', ← hu, ← hz, wu, wz]
  refine awp_draw_text (by kernel_rfl) [44, 48, 49] [(.fn (.func 14) [] [], [.agg [.int .i64 (P : Int), V]], .agg [.int .i64 (P : Int), V]), (.fn (.func 15) [] [], [.int .i64 (P : Int), .int .i64 (q : Int)], natL (memL P q)), (.fn (.func 13) [] [], [.agg [.int .i64 (P : Int), V], natL (memL P q)], .tup [.int .i64 (capF R ((memL P q).map fun x : Nat => (x : Int))), .int .i64 0])] (by kernel_rfl) (by kernel_rfl) (by simp; exact ⟨PureV.of hnet, PureV.of (hPs q hq20), PureV.of (hcap q)⟩) ?_
  simp [hb7, hV1, hV2, hV3, ep', eq', ← hu, ← hz, wu, wz]
  refine awp_draw_text (by kernel_rfl) [54, 60, 61] [(.fn (.func 14) [] [], [.agg [.int .i64 (P : Int), V]], .agg [.int .i64 (P : Int), V]), (.fn (.func 15) [] [], [.int .i64 (P : Int), .int .i64 (u : Int)], natL (memL P u)), (.fn (.func 13) [] [], [.agg [.int .i64 (P : Int), V], natL (memL P u)], .tup [.int .i64 (capF R ((memL P u).map fun x : Nat => (x : Int))), .int .i64 0])] (by kernel_rfl) (by kernel_rfl) (by simp; exact ⟨PureV.of hnet, PureV.of (hPs u hu20), PureV.of (hcap u)⟩) ?_
  simp [hb7, hV1, hV2, hV3, ep', eq', ← hu, ← hz, wu, wz]
  refine awp_draw_text (by kernel_rfl) [66, 72, 73] [(.fn (.func 14) [] [], [.agg [.int .i64 (P : Int), V]], .agg [.int .i64 (P : Int), V]), (.fn (.func 15) [] [], [.int .i64 (P : Int), .int .i64 (z : Int)], natL (memL P z)), (.fn (.func 13) [] [], [.agg [.int .i64 (P : Int), V], natL (memL P z)], .tup [.int .i64 (capF R ((memL P z).map fun x : Nat => (x : Int))), .int .i64 0])] (by kernel_rfl) (by kernel_rfl) (by simp; exact ⟨PureV.of hnet, PureV.of (hPs z hz20), PureV.of (hcap z)⟩) ?_
  simp [hb7, hV1, hV2, hV3, ep', eq', ← hu, ← hz, wu, wz]
  have hRl : R.length ≤ 60 := by rw [hR]; simp [tameArcs]; omega
  have hRc : ∀ y ∈ R, 0 ≤ y.c ∧ y.c ≤ 1000000000 := by
    intro y hy
    rw [hR] at hy
    obtain ⟨w, _, rfl⟩ := List.mem_map.1 hy
    have := tameArc_ok hP2.1 w
    unfold arcOk at this
    simp only [Bool.and_eq_true, decide_eq_true_eq] at this
    exact ⟨this.1.2, this.2⟩
  have hRa : ∀ y ∈ R, (0 ≤ y.a ∧ y.a < P) ∧ 0 ≤ y.b ∧ y.b < P := by
    intro y hy
    rw [hR] at hy
    obtain ⟨w, _, rfl⟩ := List.mem_map.1 hy
    have := tameArc_ok hP2.1 w
    unfold arcOk at this
    simp only [Bool.and_eq_true, decide_eq_true_eq] at this
    obtain ⟨⟨⟨⟨⟨⟨h1, h2⟩, h3⟩, h4⟩, _⟩, _⟩, _⟩ := this
    exact ⟨⟨h1, h3⟩, h2, h4⟩
  have hcp := fun s : Nat => cap_eq ((memL P s).map fun x : Nat => (x : Int)) R 0 hRc (by omega) (by omega)
  have hsub := cap_sub (f := ((memL P p).map fun x : Nat => (x : Int)).contains) (g := ((memL P q).map fun x : Nat => (x : Int)).contains) (u := ((memL P u).map fun x : Nat => (x : Int)).contains) (z := ((memL P z).map fun x : Nat => (x : Int)).contains) R (fun y hy => (hRc y hy).1) (fun y hy => by
    obtain ⟨⟨h1, h2⟩, h3, h4⟩ := hRa y hy
    simp only [mem_contains, h1, h2, h3, h4, decide_true, Bool.true_and, hu, hz, Nat.testBit_or, Nat.testBit_and, and_self])
  have hle : IntKind.i64.wrap (capF R ((memL P u).map fun x : Nat => (x : Int)) + capF R ((memL P z).map fun x : Nat => (x : Int))) ≤ IntKind.i64.wrap (capF R ((memL P p).map fun x : Nat => (x : Int)) + capF R ((memL P q).map fun x : Nat => (x : Int))) := by
    unfold capF
    obtain ⟨p1, p2, p3⟩ := hcp p
    obtain ⟨q1, q2, q3⟩ := hcp q
    obtain ⟨u1, u2, u3⟩ := hcp u
    obtain ⟨z1, z2, z3⟩ := hcp z
    rw [p1, q1, u1, z1, wrap_i64 (by omega) (by omega), wrap_i64 (by omega) (by omega)]
    omega
  simp [hle]
  refine w_awake.use ?_
  simp
  exact finA_drop rfl
end Go.Proofs
