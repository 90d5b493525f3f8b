/-
  Pair: the law on assignments, walked.
-/
import Derived.Test.YtkdhgablioljnaaPbW
set_option linter.unusedSimpArgs false
set_option linter.unusedVariables false
set_option linter.unusedSectionVars false
namespace Go.Proofs
open Go Go.AH
set_option maxRecDepth 10000
set_option maxHeartbeats 8000000

theorem appendK_nil3 {es k : Nat} {xs : List AV} {h : AHeap} {K : AV → AHeap → Prop} (hn : k < 1073741824) (hx : k = 0 → xs = []) (q : ∀ o, (o = none ↔ k = 0) → FreshO h o → K (ownV o k es) (h.updO o xs)) : appendK h es .nilsl k xs K := by
  refine ⟨fun e => ?_, fun e => ⟨by omega, fun b hb => ?_⟩⟩
  · have := q none (by simp [e]) (by simp)
    simpa using this
  · have := q (some b) (by simp [e]) hb
    simpa using this
def cut14 (l : List (List Int)) (i : Nat) : List (List Int) := (l.take i).map fun r => r.take 14
theorem cut14_succ {l : List (List Int)} {i : Nat} {r : List Int} (h : l[i]? = some r) : cut14 l (i + 1) = cut14 l i ++ [r.take 14] := by
  obtain ⟨hi, e⟩ := List.getElem?_eq_some_iff.1 h
  unfold cut14
  rw [List.take_succ_eq_append_getElem hi, e]; simp
theorem intLs_frozen {C : List (List Int)} : ∀ x ∈ C.map intL, x.frozen = true := by
  intro x hx
  obtain ⟨r, _, rfl⟩ := List.mem_map.1 hx
  simp
theorem turnA_rows {K : AF → AHeap → Prop} {t : AF} {h0 : AHeap} (i : Nat) (o : Option Nat) (C : List (List Int)) (ht : t i = ownV o C.length 1) (hf : FreshO h0 o) (hn : o = none ↔ C = []) (q : K (t.put i (rowsV C)) h0) : turnA K t (h0.updO o (C.map intL)) := by
  cases o with
  | none =>
    have e : t.put i (rowsV C) = t := by
      funext j
      by_cases e : j = i
      · subst e; rw [ht]; simp [AF.put, rowsV, hn.1 rfl]
      · simp [AF.put, e]
    rw [e] at q
    exact turnA_self q
  | some b =>
    have hne : C ≠ [] := fun e => nomatch hn.2 e
    have hfb : Fresh h0 b := hf
    refine turnA_frz 2 h0 (t.put i (rowsV C)) (Drop.new (Drop.refl _) (by simpa [Fresh] using hfb)) (fun j => ?_) q
    by_cases e : j = i
    · subst e
      refine .inr ?_
      rw [ht, ownV_some, frz_osl hfb, updO_some, cellsAt_eq AHeap.upd_same]
      have hp : (t.put j (rowsV C)) j = rowsV C := by simp [AF.put]
      have hlC : 0 + C.length * 1 ≤ (C.map intL).length := by simp
      rw [hp]
      simp only [List.drop_zero, hlC, if_true]
      rw [List.take_of_length_le (by simp), map_frozen intLs_frozen]
      unfold rowsV
      rw [if_neg hne]
    · exact .inl (by simp [AF.put, e])
structure KV2 where
  k : Nat
  V : AV
def Own (V : AV) : Prop := (∃ e, e ≠ 0 ∧ OfV V e) ∨ ∃ (C : List (List Int)) (n : Nat), OffOk C n ∧ V = .sl n (partsC C) ∧ OfV V 0
theorem own_of (C : List (List Int)) (hl : C.length ≤ 14) (hr : ∀ r ∈ C, r.length ≤ 14) : Own (rowsV C) := by
  rcases rowsV_of C hl hr with h | ⟨h1, h2, h3⟩
  · exact .inl h
  · exact .inr ⟨C, C.length, h1, h2, h3⟩
theorem w_PairAssigns (l : List (List Int)) (hl : l.length ≤ 4611686018427387904) (hr : ∀ r ∈ l, r.length ≤ 4611686018427387904) :
    Pure Try.prog 3 [.sl l.length (partsC l)] (.bool true) := by
  refine pure_of (acalls_of Try.func3 rfl Try.call3 (by kernel_rfl) (by show _ ≤ (151 : Nat); simp) ?_)
  have hpl : (partsC l).length = l.length := by simp [partsC]
  simp
  refine loop_cut (fun t hq => ∃ C : List (List Int), (C.length ≤ 14 ∧ ∀ r ∈ C, r.length ≤ 14) ∧ (∃ o, (o = none ↔ C = []) ∧ t 3 = ownV o C.length 1 ∧ hq = AHeap.empty.updO o (C.map intL)) ∧ t 0 = .sl l.length (partsC l)) ?_ ?_
  · refine awp_loop_g (γ := At) (fun z t h => (z.i ≤ l.length ∧ z.i ≤ 14) ∧ (z.o = none ↔ z.i = 0) ∧ t 0 = .sl l.length (partsC l) ∧ t 3 = ownV z.o z.i 1 ∧ t 4 = .int .i64 z.i ∧ h = AHeap.empty.updO z.o ((cut14 l z.i).map intL)) (fun z => l.length - z.i) (⟨0, none⟩) (turnA_self ⟨by simp, by simp, by simp [cut14]⟩) ?_
    rintro z t hx ⟨hi, ho, h0, h3, h4, ex⟩
    obtain ⟨i, o⟩ := z
    simp only at h0 h3 h4 hi ho ex
    rw [ex]
    clear ex
    have hcl : (cut14 l i).length = i := by simp [cut14]; omega
    have hcr : ∀ r ∈ cut14 l i, r.length ≤ 14 := fun r hr => by
      unfold cut14 at hr
      obtain ⟨r', _, rfl⟩ := List.mem_map.1 hr
      simp; omega
    have hc0 : cut14 l i = [] ↔ i = 0 := ⟨fun e => by rw [e] at hcl; simpa using hcl.symm, fun e => List.eq_nil_of_length_eq_zero (hcl.trans e)⟩
    by_cases c1 : i < l.length
    rotate_left
    · have c1I : ¬ (i : Int) < (l.length : Int) := by omega
      simp [h0, h3, h4, c1, c1I]
      exact ⟨cut14 l i, ⟨by omega, hcr⟩, o, by rw [ho, hc0], by rw [hcl], rfl⟩
    have c1I : (i : Int) < (l.length : Int) := by omega
    by_cases c2 : i < 14
    rotate_left
    · have c2I : ¬ (i : Int) < 14 := by omega
      simp [h0, h3, h4, c1, c1I, c2, c2I]
      exact ⟨cut14 l i, ⟨by omega, hcr⟩, o, by rw [ho, hc0], by rw [hcl], rfl⟩
    have c2I : (i : Int) < 14 := by omega
    simp [h0, h3, h4, c1, c1I, c2, c2I]
    have hwi : IntKind.i64.wrap ((i : Int) + 1) = (i : Int) + 1 := wrap_i64 (by omega) (by omega)
    obtain ⟨r, hri⟩ : ∃ r, l[i]? = some r := ⟨_, List.getElem?_eq_getElem c1⟩
    have hat := partsC_row hri
    have hrl := hr r (List.mem_of_getElem? hri)
    obtain ⟨N, hN⟩ : ∃ N, N = min r.length 14 := ⟨_, rfl⟩
    have m0 : (if 14 < r.length then (14 : Int) else (r.length : Int)) = (N : Int) := by split <;> omega
    have m0I : (if (14 : Int) < (r.length : Int) then (14 : Int) else (r.length : Int)) = (N : Int) := by split <;> omega
    have q0 : N ≤ r.length := by omega
    have q0I : (N : Int) ≤ (r.length : Int) := by omega
    have t0 : (intC r).take N = intC (r.take 14) := by
      have : r.take 14 = r.take N := by
        rw [hN]
        rcases Nat.le_total r.length 14 with h | h
        · rw [Nat.min_eq_left h, List.take_of_length_le h, List.take_length]
        · rw [Nat.min_eq_right h]
      rw [this]; simp [intC, List.map_take]
    obtain ⟨r6, hr6⟩ : ∃ r6, r6 = r.take 14 := ⟨_, rfl⟩
    have r6l : r6.length = N := by rw [hr6]; simp; omega
    rw [← hr6] at t0
    have hcs := cut14_succ hri
    rw [← hr6] at hcs
    refine awp_drawM (by kernel_rfl) (fun b => if o = some b then 5 else 0) [[], [], [], [], [], [], [], [], [], [], [], [], [], [], [], [5, 0], []] (by kernel_rfl) (by kernel_rfl) ?_
    simp [h0, h3, h4, c1, c1I, hat, hpl, m0, m0I, q0, q0I, t0, r6l, accA, blkS, -appendA_nilsl]
    refine ⟨fun b => by simp [blkP], appendK_nil3 (by omega) (fun e => by rw [List.eq_nil_of_length_eq_zero (r6l.trans e)]; rfl) fun o1 ho1 hf1 => ?_⟩
    obtain ⟨V, hV⟩ : ∃ V, V = ownV o1 N 1 := ⟨_, rfl⟩
    have hV1 : V.one = true := by rw [hV]; cases o1 <;> rfl
    have hV2 : V.fit = true := by rw [hV]; cases o1 <;> rfl
    have hV3 : V.cells = [V] := by rw [hV]; cases o1 <;> rfl
    rw [← hV]
    have hoo : ∀ b, o = some b → ¬ o1 = some b := fun b e1 e2 => by subst e1; subst e2; simp at hf1
    simp [h0, h3, h4, hV1, hV2, hV3, splice]
    intro b40 hb40
    simp at hb40
    simp [h0, h3, h4, hb40]
    refine ⟨fun b _ => Classical.em _, ?_⟩
    obtain ⟨X, hX⟩ : ∃ X, X = ((AHeap.empty.upd b40 (.cells [V])).updO o ((cut14 l i).map intL)).updO o1 (intC r6) := ⟨_, rfl⟩
    rw [← hX]
    have hXo : ∀ b, o = some b → X b = some (.cells ((cut14 l i).map intL)) := fun b e => by
      have h1 := hoo b e
      rw [hX]
      cases o1 with
      | none => subst e; simp
      | some y =>
        have : b ≠ y := fun q => h1 (by rw [q])
        rw [updO_some, AHeap.upd_ne this]; subst e; simp
    have hX1 : ∀ b, o1 = some b → X b = some (.cells (intC r6)) := fun b e => by rw [hX]; subst e; simp
    refine appendK_own (cs := (cut14 l i).map intL) Nat.zero_lt_one (by omega) (fun e => by have := ho.1 e; exact ⟨this, by rw [hc0.2 this]; rfl⟩) (by simp [hcl]) hXo fun b' hb' => ?_
    have hb1 : ∀ b, o1 = some b → b ≠ b' := fun b e q => by
      rcases hb' with h | h
      · exact hoo b' h (q ▸ e)
      · have := hX1 b e
        rw [q, h] at this; cases this
    simp [h0, h3, h4]
    refine ⟨2, AHeap.empty.upd b' (.cells ((cut14 l (i + 1)).map intL)), _, fun y => ?_, fun i => .inl rfl, ⟨⟨i + 1, some b'⟩, by simp only; omega, ⟨by simp only; omega, by simp only; omega⟩, by simp, by simp [h0, h3, h4, hwi]⟩⟩
    by_cases yp : y = b'
    · subst yp
      refine .inr (.inr ⟨_, AHeap.upd_same, ?_⟩)
      rw [AHeap.upd_same]
      have e1 : o1 = none ↔ r6 = [] := by rw [ho1, ← r6l]; exact ⟨List.eq_nil_of_length_eq_zero, fun e => by rw [e]; rfl⟩
      have hz := frz_ownI (o := o1) (l := r6) (h := X.upd y (.cells ((cut14 l i).map intL ++ [V]))) (h' := AHeap.empty.upd y (.cells ((cut14 l (i + 1)).map intL))) e1 (fun b e => ⟨by rw [AHeap.upd_ne (hb1 b e)]; exact hX1 b e, by
        show (AHeap.empty.upd y _) b = none
        rw [AHeap.upd_ne (hb1 b e)]; rfl⟩)
      rw [r6l, ← hV] at hz
      rw [List.map_append, map_frozen intLs_frozen, List.map_cons, List.map_nil, hz, hcs]
      simp
    · rw [AHeap.upd_ne yp]
      exact .inl rfl
  intro t hq ⟨C, hC, ex2, h0⟩
  obtain ⟨o, ho, h3, rfl⟩ := ex2
  simp [h0]
  refine awp_loop_g (γ := KV2) (fun z t h => (z.k ≤ 2) ∧ (Own z.V) ∧ t 0 = .sl l.length (partsC l) ∧ t 3 = z.V ∧ t 6 = .int .i64 z.k ∧ h = AHeap.empty) (fun z => 2 - z.k) (⟨0, rowsV C⟩) (turnA_rows 3 o C (by simp [h3]) (by simp) ho ⟨by simp, own_of C hC.1 hC.2, by simp [h0]⟩) ?_
  rintro z t h ⟨hk, hO, h0, h3, h6, rfl⟩
  obtain ⟨k, V⟩ := z
  simp only at h0 h3 h6 hk hO
  by_cases hk2 : k < 2
  rotate_left
  · have hkE : k = 2 := by omega
    simp [h0, h3, h6, hkE]
    refine w_awake.use ?_
    simp [h0, h3, h6]
    exact finA_drop rfl
  have hkI : (k : Int) < 2 := by omega
  have hwk : IntKind.i64.wrap ((k : Int) + 1) = (k : Int) + 1 := wrap_i64 (by omega) (by omega)
  obtain ⟨n, hn⟩ : ∃ n, n = max 1 (min l.length 6) := ⟨_, rfl⟩
  have n1 : 1 ≤ n ∧ n ≤ 12 := by omega
  have co := l_offer l 6 n hl hr (by omega) hn
  have hOw : Own (.sl n (partsC (offE l n))) := .inr ⟨offE l n, n, offE_ok n1, rfl, by
    have O := offE_ok (l := l) n1
    have c1 := w_checkOffer (offE l n) (by rw [O.len]; omega) (fun r hr => by rw [O.rows r hr]; omega)
    have c2 := w_ROffer (offE l n) (by rw [O.len]; omega)
    rw [O.chk, O.len] at c1 c2
    exact ⟨c1, c2⟩⟩
  rcases hO with ⟨e, he, hv⟩ | ⟨C1, n2, O, hV, hv⟩
  · simp [h0, h3, h6, hkI]
    refine (e_Assign he hv.chk).use ?_
    simp [h0, h3, h6]
    refine (e_Prices he hv.chk).use ?_
    simp [h0, h3, h6]
    refine hv.ref.use ?_
    simp [h0, h3, h6, he]
    refine (e_ArePrices he hv.chk .nilsl .nilsl 0).use ?_
    simp [h0, h3, h6]
    refine co.use ?_
    simp [h0, h3, h6]
    exact turnA_self ⟨⟨k + 1, _⟩, by simp only; omega, by simp only; omega, hOw, by simp [h0, h3, h6, hwk]⟩
  · have m1 := O.n1
    have cA := w_Assign C1 n2 O
    obtain ⟨ps, hps⟩ : ∃ ps, ps = gB n2 C1 ((List.range n2).map fun i : Nat => (i : Int)) := ⟨_, rfl⟩
    have cR := w_RAssign C1 n2 O
    rw [← hps] at cA cR
    have hpl := (gB_asg n2 C1 ((List.range n2).map fun i : Nat => (i : Int)) O.oo (by simp)).1
    rw [← hps] at hpl
    have cS := l_same ps (by omega)
    obtain ⟨W, hW⟩ : ∃ W, W = optV n2 (cF C1) := ⟨_, rfl⟩
    rw [← hW] at cA cR
    subst hV
    simp [h0, h3, h6, hkI]
    refine cA.use ?_
    simp [h0, h3, h6]
    refine ACalls.mono (w_PricesH C1 n2 O AHeap.empty) ?_
    rintro _ _ ⟨bu, bv, fu, fv, fp, hne, hbu, hbv, hB, rfl, rfl⟩
    simp [h0, h3, h6]
    refine hv.ref.use ?_
    simp [h0, h3, h6]
    have hne2 : ¬ bv = bu := fun e => hne e.symm
    obtain ⟨H, hH⟩ : ∃ H, H = (AHeap.empty.upd bu (.cells (iarr n2 fu))).upd bv (.cells (iarr n2 fv)) := ⟨_, rfl⟩
    have du : H bu = some (.cells (iarr n2 fu)) := by rw [hH]; simp [AHeap.upd, hne]
    have dv : H bv = some (.cells (iarr n2 fv)) := by rw [hH]; simp [AHeap.upd]
    have p1 := l_ArePricesO C1 n2 O fu fv bu bv H du dv W
    have p2 := l_RArePricesO C1 n2 O fu fv bu bv H du dv W
    rw [prices_yes O hB, ← hW] at p1 p2
    simp only [decide_true] at p1 p2
    rw [← hH]
    have fin : Drop H AHeap.empty := by
      rw [hH]
      exact Drop.new (Drop.new (Drop.refl _) rfl) rfl
    by_cases q6 : n2 ≤ 6
    · have h6I : (n2 : Int) ≤ 6 := by omega
      simp [h0, h3, h6, q6, h6I]
      refine cR.use ?_
      simp [h0, h3, h6]
      refine cS.use ?_
      simp [h0, h3, h6]
      refine p2.use ?_
      simp [h0, h3, h6]
      refine p1.use ?_
      simp [h0, h3, h6]
      refine co.use ?_
      simp [h0, h3, h6]
      refine turnA_to AHeap.empty fin ?_
      exact ⟨⟨k + 1, .sl n (partsC (offE l n))⟩, by simp only; omega, by simp only; omega, hOw, by simp [h0, h3, h6, hwk]⟩
    · have h6I : ¬ (n2 : Int) ≤ 6 := by omega
      simp [h0, h3, h6, q6, h6I]
      refine p2.use ?_
      simp [h0, h3, h6]
      refine co.use ?_
      simp [h0, h3, h6]
      refine turnA_to AHeap.empty fin ?_
      exact ⟨⟨k + 1, .sl n (partsC (offE l n))⟩, by simp only; omega, by simp only; omega, hOw, by simp [h0, h3, h6, hwk]⟩
end Go.Proofs
