/-
  Pair: the law on prices.
-/
import Derived.Test.YtkdhgablioljnaaP6
import Derived.Test.YtkdhgablioljnaaP2
import Derived.Test.YtkdhgablioljnaaPaAwk
set_option linter.unusedSimpArgs false
set_option linter.unusedVariables false
set_option linter.unusedSectionVars false
namespace Go.Proofs
open Go Go.AH
set_option maxRecDepth 10000
set_option maxHeartbeats 4000000

theorem offX_sm {l : List (List Int)} {i k : Nat} : -1000000 ≤ offX l i k ∧ offX l i k ≤ 1000000 := by
  unfold offX
  split
  · split
    · next x _ =>
      have h1 := Int.tmod_lt_of_pos x (show (0 : Int) < 1000001 by omega)
      have h2 := Int.lt_tmod_of_pos x (show (0 : Int) < 1000001 by omega)
      omega
    · omega
  · omega
theorem offE_ok {l : List (List Int)} {n : Nat} (hn : 1 ≤ n ∧ n ≤ 12) : OffOk (offE l n) n := by
  refine ⟨by simp [offE], hn, fun r hr => ?_, fun r hr x hx => ?_⟩
  · unfold offE at hr
    obtain ⟨i, _, rfl⟩ := List.mem_map.1 hr
    simp [offRow]
  · unfold offE at hr
    obtain ⟨i, _, rfl⟩ := List.mem_map.1 hr
    unfold offRow at hx
    obtain ⟨k, _, rfl⟩ := List.mem_map.1 hx
    exact offX_sm
theorem w_Prices0 (C : List (List Int)) (n : Nat) (O : OffOk C n) :
    ACalls Try.prog 14 [.sl n (partsC C)] AHeap.empty fun r h' => ∃ (bu bv : Nat) (u v p : Nat → Int), ¬ bu = bv ∧ BestIs n (cF C) u v p ∧ r = .tup [.osl bu 0 n 1, .osl bv 0 n 1, .int .i64 0] ∧ h' = (AHeap.empty.upd bu (.cells (iarr n u))).upd bv (.cells (iarr n v)) := by
  obtain ⟨Q, hQ⟩ : ∃ Q : AV → AHeap → Prop, Q = fun r h' => ∃ (bu bv : Nat) (u v p : Nat → Int), ¬ bu = bv ∧ BestIs n (cF C) u v p ∧ r = .tup [.osl bu 0 n 1, .osl bv 0 n 1, .int .i64 0] ∧ h' = (AHeap.empty.upd bu (.cells (iarr n u))).upd bv (.cells (iarr n v)) := ⟨_, rfl⟩
  rw [← hQ]
  refine acalls_of Try.func14 rfl Try.call14 (by kernel_rfl) (by show _ ≤ (19 : Nat); simp) ?_
  have n1 := O.n1
  have cc := w_checkOffer C (by rw [O.len]; omega) (fun r hr => by rw [O.rows r hr]; omega)
  rw [O.len, O.chk] at cc
  simp
  refine cc.use ?_
  simp
  refine ACalls.mono (w_best C n O) ?_
  rintro _ _ ⟨bu, bv, bp, u, v, p, h1, h2, h3, hB, rfl, rfl⟩
  simp
  refine finA_same ((AHeap.empty.upd bu (.cells (iarr n u))).upd bv (.cells (iarr n v))) (Drop.new (Drop.refl _) ?_) ?_
  · simp [AHeap.upd, AHeap.empty, Ne.symm h2, Ne.symm h3, h2, h3]
  · rw [hQ]
    exact ⟨bu, bv, u, v, p, h1, hB, rfl, rfl⟩
theorem w_PricesH (C : List (List Int)) (n : Nat) (O : OffOk C n) (H : AHeap) :
    ACalls Try.prog 14 [.sl n (partsC C)] H fun r h' => ∃ (bu bv : Nat) (u v p : Nat → Int), ¬ bu = bv ∧ Fresh H bu ∧ Fresh H bv ∧ BestIs n (cF C) u v p ∧ r = .tup [.osl bu 0 n 1, .osl bv 0 n 1, .int .i64 0] ∧ h' = (H.upd bu (.cells (iarr n u))).upd bv (.cells (iarr n v)) := by
  refine ACalls.mono (at_any (w_Prices0 C n O) H) ?_
  rintro r h' ⟨h1, rfl, D, bu, bv, u, v, p, hne, hB, rfl, rfl⟩
  have hu : H bu = none := (D bu).resolve_left (by rw [AHeap.upd_ne hne, AHeap.upd_same]; simp)
  have hv : H bv = none := (D bv).resolve_left (by rw [AHeap.upd_same]; simp)
  refine ⟨bu, bv, u, v, p, hne, hu, hv, hB, rfl, ?_⟩
  funext b
  unfold AHeap.un
  by_cases e : b = bv
  · subst e; rw [AHeap.upd_same, AHeap.upd_same]
  · rw [AHeap.upd_ne e, AHeap.upd_ne e]
    by_cases e2 : b = bu
    · subst e2; rw [AHeap.upd_same, AHeap.upd_same]
    · rw [AHeap.upd_ne e2, AHeap.upd_ne e2]; rfl
theorem appendA_nil2 {es k : Nat} {xs : List AV} {h : AHeap} {K : AV → AHeap → Prop} (hn : k < 1073741824) (hx : k = 0 → xs = []) (q : ∀ o, (o = none ↔ k = 0) → FreshO h o → K (ownV o k es) (h.updO o xs)) : appendA h es .nilsl k xs K := by
  rw [appendA_nilsl]
  refine ⟨fun e => ?_, fun e => ⟨by omega, fun b hb => ?_⟩⟩
  · have := q none (by simp [e]) (by simp)
    simpa using this
  · have := q (some b) (by simp [e]) hb
    simpa using this
theorem frz_ownI {o : Option Nat} {l : List Int} {h h' : AHeap} (hn : o = none ↔ l = []) (hb : ∀ b, o = some b → h b = some (.cells (intC l)) ∧ Fresh h' b) : frzF 2 h h' (ownV o l.length 1) = intL l := by
  cases o with
  | none => rw [hn.1 rfl]; simp [intL]
  | some b =>
    have hne : l ≠ [] := fun e => nomatch hn.2 e
    obtain ⟨h1, h2⟩ := hb b rfl
    rw [ownV_some, frz_osl h2, cellsAt_eq h1]
    simp [intL, hne]
    rw [map_frozen intC_frozen]
    exact List.take_of_length_le (by simp)
theorem turnA_own2 {K : AF → AHeap → Prop} {t : AF} {h0 : AHeap} (i j : Nat) (hij : i ≠ j) (o1 o2 : Option Nat) (l1 l2 : List Int) (h1 : t i = ownV o1 l1.length 1) (h2 : t j = ownV o2 l2.length 1) (f1 : FreshO h0 o1) (f2 : FreshO (h0.updO o1 (intC l1)) o2) (n1 : o1 = none ↔ l1 = []) (n2 : o2 = none ↔ l2 = [])
    (q : K ((t.put i (intL l1)).put j (intL l2)) h0) : turnA K t ((h0.updO o1 (intC l1)).updO o2 (intC l2)) := by
  have hne : ∀ b, o1 = some b → ¬ o2 = some b := fun b e1 e2 => by subst e1; subst e2; simp at f2
  refine turnA_frz 2 h0 _ (drop_updO (drop_updO (Drop.refl _) f1) (by simp at f2; exact f2.2)) (fun x => ?_) q
  by_cases e : x = j
  · subst e
    refine .inr ?_
    rw [h2, frz_ownI n2 (fun b e => ?_)]
    · simp [AF.put]
    · subst e
      exact ⟨by simp, by simp at f2; exact f2.2⟩
  · by_cases e2 : x = i
    · subst e2
      refine .inr ?_
      rw [h1, frz_ownI n1 (fun b e => ?_)]
      · simp [AF.put, e]
      · subst e
        refine ⟨?_, f1⟩
        have := hne b rfl
        cases o2 with
        | none => simp
        | some y =>
          have hy : ¬ b = y := fun q => this (by rw [q])
          rw [updO_some, AHeap.upd_ne hy]; simp
    · exact .inl (by simp [AF.put, e, e2])
structure VZ where
  k : Nat
  u : List Int
  v : List Int
structure XZ where
  i : Nat
  a : Nat → Int
  b : Nat → Int
def aL (n : Nat) (f : Nat → Int) : List Int := (List.range n).map f
theorem aL_iarr {n : Nat} {f : Nat → Int} : intC (aL n f) = iarr n f := by simp [intC, aL, iarr]
@[simp] theorem aL_length {n : Nat} {f : Nat → Int} : (aL n f).length = n := by simp [aL]
theorem w_PairPrices (l : List (List Int)) (hl : l.length ≤ 4611686018427387904) (hr : ∀ r ∈ l, r.length ≤ 4611686018427387904) (o0 o1 : List Int) (h0 : o0.length ≤ 4611686018427387904) (h1 : o1.length ≤ 4611686018427387904) (w : Int) :
    Pure Try.prog 4 [.sl l.length (partsC l), .agg [intS o0, intS o1], .int .i64 w] (.bool true) := by
  refine pure_of (acalls_of Try.func4 rfl Try.call4 (by kernel_rfl) (by show _ ≤ (122 : Nat); simp) ?_)
  obtain ⟨n, hn⟩ : ∃ n, n = max 1 (min l.length 4) := ⟨_, rfl⟩
  have n1 : 1 ≤ n ∧ n ≤ 12 := by omega
  have co := l_offer l 4 n hl hr (by omega) hn
  obtain ⟨C, hC⟩ : ∃ C, C = offE l n := ⟨_, rfl⟩
  have O : OffOk C n := by rw [hC]; exact offE_ok n1
  rw [← hC] at co
  have cA := fun u v hu hv w => w_ArePrices C (by rw [O.len]; omega) (fun r hr => by rw [O.rows r hr]; omega) u v hu hv w
  have cR := fun u v hu hv w => w_RArePrices C (by rw [O.len]; omega) u v hu hv w
  simp only [O.len] at cA cR
  obtain ⟨N0, hN0⟩ : ∃ N0, N0 = min o0.length 6 := ⟨_, rfl⟩
  obtain ⟨N1, hN1⟩ : ∃ N1, N1 = min o1.length 6 := ⟨_, rfl⟩
  have m0 : (if 6 < o0.length then (6 : Int) else (o0.length : Int)) = (N0 : Int) := by split <;> omega
  have m1 : (if 6 < o1.length then (6 : Int) else (o1.length : Int)) = (N1 : Int) := by split <;> omega
  have m0I : (if (6 : Int) < (o0.length : Int) then (6 : Int) else (o0.length : Int)) = (N0 : Int) := by split <;> omega
  have m1I : (if (6 : Int) < (o1.length : Int) then (6 : Int) else (o1.length : Int)) = (N1 : Int) := by split <;> omega
  have q0 : N0 ≤ o0.length := by omega
  have q1 : N1 ≤ o1.length := by omega
  have q0I : (N0 : Int) ≤ (o0.length : Int) := by omega
  have q1I : (N1 : Int) ≤ (o1.length : Int) := by omega
  have t0 : (intC o0).take N0 = intC (o0.take N0) := by simp [intC, List.map_take]
  have t1 : (intC o1).take N1 = intC (o1.take N1) := by simp [intC, List.map_take]
  obtain ⟨u6, hu6⟩ : ∃ u6, u6 = o0.take N0 := ⟨_, rfl⟩
  obtain ⟨v6, hv6⟩ : ∃ v6, v6 = o1.take N1 := ⟨_, rfl⟩
  have u6l : u6.length = N0 := by rw [hu6]; simp; omega
  have v6l : v6.length = N1 := by rw [hv6]; simp; omega
  rw [← hu6] at t0
  rw [← hv6] at t1
  unfold intS
  simp
  intro b4 hb4
  simp
  refine co.use ?_
  simp [m0, m0I, q0, q0I, t0, u6l, -appendA_nilsl]
  refine appendA_nil2 (by omega) (fun e => by rw [List.eq_nil_of_length_eq_zero (u6l.trans e)]; rfl) fun p1 hp1 hf1 => ?_
  have e1 : p1 = none ↔ u6 = [] := by rw [hp1, ← u6l]; exact ⟨List.eq_nil_of_length_eq_zero, fun e => by rw [e]; rfl⟩
  have p14 : ¬ p1 = some b4 := fun e => by subst e; simp at hf1
  simp [p14, m1, m1I, q1, q1I, t1, v6l, -appendA_nilsl]
  refine appendA_nil2 (by omega) (fun e => by rw [List.eq_nil_of_length_eq_zero (v6l.trans e)]; rfl) fun p2 hp2 hf2 => ?_
  have e2 : p2 = none ↔ v6 = [] := by rw [hp2, ← v6l]; exact ⟨List.eq_nil_of_length_eq_zero, fun e => by rw [e]; rfl⟩
  obtain ⟨H0, hH0⟩ : ∃ H0, H0 = AHeap.empty.upd b4 (.cells [.sl o0.length (intC o0), .sl o1.length (intC o1)]) := ⟨_, rfl⟩
  rw [← hH0] at hf1 hf2 ⊢
  simp
  refine awp_loop_g (γ := VZ) (fun z t h => (z.k ≤ 3) ∧ (z.u.length ≤ 1000000) ∧ (z.v.length ≤ 1000000) ∧ (∃ w : Int, t 2 = .int .i64 w) ∧ t 6 = .bool false ∧ t 7 = .sl n (partsC C) ∧ t 8 = intL z.u ∧ t 9 = intL z.v ∧ t 10 = .int .i64 z.k ∧ h = H0) (fun z => 3 - z.k) (⟨0, u6, v6⟩) (turnA_own2 8 9 (by decide) p1 p2 u6 v6 (by simp [u6l]) (by simp [v6l]) hf1 hf2 e1 e2 ⟨by simp, by simp; omega, by simp; omega, ⟨w, by simp⟩, by simp⟩) ?_
  rintro z t hx ⟨hk, hu, hv, hw, h6, h7, h8, h9, h10, ex⟩
  obtain ⟨k, u, v⟩ := z
  simp only at h6 h7 h8 h9 h10 hk hu hv ex
  rw [ex]
  clear ex
  obtain ⟨x, h2⟩ := hw
  by_cases hk3 : k < 3
  rotate_left
  · obtain rfl : k = 3 := by omega
    simp [h6, h7, h8, h9, h10]
    refine w_awake.use ?_
    simp [h6, h7, h8, h9, h10]
    exact finA_drop rfl
  have hkI : (k : Int) < 3 := by omega
  have hwk : IntKind.i64.wrap ((k : Int) + 1) = (k : Int) + 1 := wrap_i64 (by omega) (by omega)
  have cA1 := cA u v (by omega) (by omega) x
  have cR1 := cR u v (by omega) (by omega) x
  obtain ⟨B, hB⟩ : ∃ B, prB C u v x = B := ⟨_, rfl⟩
  rw [hB] at cA1 cR1
  simp [h6, h7, h8, h9, h10, h2, hkI]
  refine cA1.use ?_
  simp [h6, h7, h8, h9, h10, h2]
  refine cR1.use ?_
  simp [h6, h7, h8, h9, h10, h2]
  refine ACalls.mono (w_PricesH C n O H0) ?_
  rintro _ _ ⟨bu, bv, fa, fb, fp, hne, hbu, hbv, hB, rfl, rfl⟩
  have hne2 : ¬ bv = bu := fun e => hne e.symm
  simp [h6, h7, h8, h9, h10, h2]
  have aLn : ∀ f, aL n f ≠ [] := fun f e => by have := congrArg List.length e; simp at this; omega
  have fin : ∀ (fa fb : Nat → Int) (t : AF) (K : AF → AHeap → Prop), t 8 = .osl bu 0 n 1 → t 9 = .osl bv 0 n 1 → K ((t.put 8 (intL (aL n fa))).put 9 (intL (aL n fb))) H0 → turnA K t ((H0.upd bu (.cells (iarr n fa))).upd bv (.cells (iarr n fb))) := fun fa fb t K q1 q2 q => by
    have := turnA_own2 (K := K) (t := t) (h0 := H0) 8 9 (by decide) (some bu) (some bv) (aL n fa) (aL n fb) (by simp [q1]) (by simp [q2]) hbu (by simp [hne, hne2, hbv]) (by simp [aLn]) (by simp [aLn]) q
    rw [updO_some, updO_some, aL_iarr, aL_iarr] at this
    exact this
  refine awp_loop_g (γ := XZ) (fun y t h => (y.i ≤ n) ∧ (∃ w : Int, t 2 = .int .i64 w) ∧ (∃ w : Int, t 14 = .int .i64 w) ∧ t 6 = .bool false ∧ t 7 = .sl n (partsC C) ∧ t 10 = .int .i64 k ∧ t 11 = .osl bu 0 n 1 ∧ t 12 = .osl bv 0 n 1 ∧ t 15 = .int .i64 y.i ∧ h = (H0.upd bu (.cells (iarr n y.a))).upd bv (.cells (iarr n y.b))) (fun y => n - y.i) (⟨0, fa, fb⟩) (turnA_self ⟨Nat.zero_le _, ⟨0, by simp⟩, ⟨_, by simp; rfl⟩, by simp [h6, h7, h8, h9, h10]⟩) ?_
  rintro y t hy ⟨hi, hw2, hby, h6, h7, h10, h11, h12, h15, ey⟩
  clear hB
  obtain ⟨i, a, b⟩ := y
  simp only at h6 h7 h10 h11 h12 h15 hi ey
  rw [ey]
  clear ey
  obtain ⟨w2, h2⟩ := hw2
  obtain ⟨w14, h14⟩ := hby
  by_cases hin : i < n
  · have hinI : (i : Int) < (n : Int) := by omega
    have hwi : IntKind.i64.wrap ((i : Int) + 1) = (i : Int) + 1 := wrap_i64 (by omega) (by omega)
    simp [h6, h7, h10, h11, h12, h15, h2, h14, hin, hinI, hne, hne2, iarr_dr hin, splice_one, iarr_set]
    refine ⟨by omega, ?_⟩
    refine awp_draw_text (by kernel_rfl) [] [] (by kernel_rfl) (by kernel_rfl) (by simp) ?_
    simp [h6, h7, h10, h11, h12, h15, h2, h14, hin, hinI, hne, hne2, iarr_dr hin]
    exact turnA_self ⟨⟨i + 1, upf a i (IntKind.i64.wrap (a i + w14)), upf b i (IntKind.i64.wrap (b i - w14))⟩, by simp only; omega, by simp only; omega, ⟨_, by simp; rfl⟩, ⟨w14, by simp [h14]⟩, by simp [h6, h7, h10, h11, h12, h15, hwi]⟩
  have hiE : i = n := by omega
  simp [h6, h7, h10, h11, h12, h15, h2, h14, hiE]
  by_cases ek : (k : Int) = 1
  · obtain rfl : k = 1 := by omega
    have hw2' : IntKind.i64.wrap 2 = 2 := wrap_i64 (by omega) (by omega)
    obtain ⟨rest, hrest⟩ : ∃ rest, rest = (iarr n a).drop 1 := ⟨_, rfl⟩
    have hd0 : iarr n a = .int .i64 (a 0) :: rest := by
      have := iarr_dr (n := n) (k := 0) (f := a) (by omega)
      rw [hrest]; simpa using this
    have hup : ∀ x : Int, .int .i64 x :: rest = iarr n (upf a 0 x) := fun x => by rw [← iarr_set, hd0]; rfl
    have hn0 : 0 < n := by omega
    rw [hd0]
    simp [h6, h7, h10, h11, h12, h15, h2, ek, hne, hne2, hn0, splice]
    rw [hup]
    refine fin (upf a 0 (IntKind.i64.wrap (a 0 - 1))) b _ _ (by simp [h6, h7, h10, h11, h12, h15]) (by simp [h6, h7, h10, h11, h12, h15]) ⟨⟨1 + 1, aL n (upf a 0 (IntKind.i64.wrap (a 0 - 1))), aL n b⟩, by simp only; omega, by simp only; omega, by simp; omega, by simp; omega, ⟨_, by simp; rfl⟩, by simp [h6, h7, h10, h11, h12, h15, hw2']⟩
  · simp [h6, h7, h10, h11, h12, h15, h2, ek]
    refine fin a b _ _ (by simp [h6, h7, h10, h11, h12, h15]) (by simp [h6, h7, h10, h11, h12, h15]) ⟨⟨k + 1, aL n a, aL n b⟩, by simp only; omega, by simp only; omega, by simp; omega, by simp; omega, ⟨w2, by simp [h2]⟩, by simp [h6, h7, h10, h11, h12, h15, hwk]⟩
end Go.Proofs
