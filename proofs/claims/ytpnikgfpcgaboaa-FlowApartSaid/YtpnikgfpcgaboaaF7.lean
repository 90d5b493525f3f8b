/-
  Texts: FlR0 FlR1 FlR2 FlR3.
-/
import Derived.Test.YtpnikgfpcgaboaaF6
import Derived.Test.YtpnikgfpcgaboaaF3
set_option linter.unusedSimpArgs false
set_option linter.unusedVariables false
set_option linter.unusedSectionVars false
section
/-
  Flow, the reference: networks, ends.
-/
namespace Go.Proofs
open Go Go.AH
set_option maxRecDepth 10000
set_option maxHeartbeats 4000000

/-- A list of arcs in either form. -/
structure ArcsV (V : AV) (l : List RArc) : Prop where
  one : V.one = true
  fit : V.fit = true
  cells : V.cells = [V]
  len22 : ∀ h, lenA Try.prog h 22 V = some (.int .i64 (l.length : Int))
  len30 : ∀ h, lenA Try.prog h 30 V = some (.int .i64 (l.length : Int))
  sl : l ≠ [] → V = .sl l.length (arcC l)
theorem ArcsV.l (l : List RArc) : ArcsV (arcsL l) l where
  one := by simp
  fit := by simp
  cells := by simp
  len22 := fun h => by
    unfold arcsL arcsA
    split
    · next e => subst e; simp
    · simp
  len30 := fun h => lenA_arcsL l
  sl := fun h => by unfold arcsL arcsA; rw [if_neg h]
theorem ArcsV.a (l : List RArc) : ArcsV (arcsA l) l where
  one := rfl
  fit := rfl
  cells := rfl
  len22 := fun h => by unfold arcsA; simp
  len30 := fun h => by unfold arcsA; simp
  sl := fun _ => rfl
theorem l_Ends (n s t : Int) : Pure Try.prog 39 [.int .i64 n, .int .i64 s, .int .i64 t] (.int .i64 (if endsB n s t = true then 0 else 1)) := by
  refine pure_of (acalls_of Try.func39 rfl Try.call39 (by kernel_rfl) (by show _ ≤ (28 : Nat); simp) ?_)
  obtain ⟨r, hr⟩ : ∃ r, r = AV.int .i64 (if endsB n s t = true then 0 else 1) := ⟨_, rfl⟩
  rw [← hr]
  have bad : ¬ (0 ≤ s ∧ 0 ≤ t ∧ s < n ∧ t < n ∧ s ≠ t) → r = .int .i64 1 := fun h => by
    rw [hr, if_neg (fun q => h (by simpa [endsB, and_assoc] using q))]
  simp
  by_cases q1 : s < 0
  · simp [q1]
    exact finA_self (bad (by omega)).symm
  · by_cases q2 : n ≤ s
    · simp [q1, q2]
      exact finA_self (bad (by omega)).symm
    · by_cases q3 : t < 0
      · simp [q1, q2, q3]
        exact finA_self (bad (by omega)).symm
      · by_cases q4 : n ≤ t
        · simp [q1, q2, q3, q4]
          exact finA_self (bad (by omega)).symm
        · by_cases q5 : s = t
          · simp [q1, q2, q3, q4, q5]
            have q1' : ¬ t < 0 := q3
            simp [q3, q4]
            exact finA_self (bad (by omega)).symm
          · simp [q1, q2, q3, q4, q5]
            refine finA_self ?_
            have : endsB n s t = true := by simp [endsB]; omega
            rw [hr, if_pos this]
theorem l_Check (n : Int) (l : List RArc) (hl : l.length ≤ 1000000) {V : AV} (hV : ArcsV V l) : Pure Try.prog 47 [.agg [.int .i64 n, V]] (.int .i64 (chkNet n l)) := by
  refine pure_of (acalls_of Try.func47 rfl Try.call47 (by kernel_rfl) (by show _ ≤ (70 : Nat); simp) ?_)
  obtain ⟨V1, V2, V3, V4, _, Vs⟩ := hV
  obtain ⟨r, hr⟩ : ∃ r, r = AV.int .i64 (chkNet n l) := ⟨_, rfl⟩
  rw [← hr]
  have bad : (n < 2 ∨ 24 < n ∨ 200 < l.length ∨ l.any (fun x => !arcOk n x) = true) → r = .int .i64 30 := fun h => by
    rw [hr, chkNet, if_pos h]
  simp [V1, V2, V3]
  intro b1 hb1
  simp [V1, V2, V3, V4, -lenA]
  by_cases q1 : n < 2
  · simp [q1]
    refine finA_drop ?_
    exact (bad (.inl q1)).symm
  · by_cases q2 : 24 < n
    · simp [q1, q2]
      refine finA_drop ?_
      exact (bad (.inr (.inl q2))).symm
    · by_cases q3 : 200 < l.length
      · have q3I : 200 < (l.length : Int) := by omega
        simp [q1, q2, q3, q3I, V1, V2, V3, V4, -lenA]
        refine finA_drop ?_
        exact (bad (.inr (.inr (.inl q3)))).symm
      · have q3I : ¬ 200 < (l.length : Int) := by omega
        simp [q1, q2, q3, q3I, V1, V2, V3, V4, -lenA]
        refine awp_loop_g (γ := Nat) (fun i t h => (i ≤ l.length) ∧ (∀ x ∈ l.take i, arcOk n x = true) ∧ t 1 = .ptr b1 0 ∧ t 3 = .int .i64 i ∧ h = AHeap.empty.upd b1 (.cells [.int .i64 n, V])) (fun i => l.length - i) (0) (turnA_self (by simp)) ?_
        rintro i t h ⟨hi, hc, h1, h3, rfl⟩
        by_cases hlt : i < l.length
        · have hltI : (i : Int) < (l.length : Int) := by omega
          have hwi : IntKind.i64.wrap ((i : Int) + 1) = (i : Int) + 1 := wrap_i64 (by omega) (by omega)
          have hVs := Vs (fun e => by rw [e] at hlt; simp at hlt)
          have hat := arcC_at hlt
          obtain ⟨x, hx⟩ : ∃ x, x = l[i] := ⟨_, rfl⟩
          rw [← hx] at hat
          have hxm : x ∈ l := hx ▸ List.getElem_mem hlt
          have hi3 : 3 ≤ l.length * 3 - i * 3 := by omega
          have hi4 : min 3 (l.length * 3 - i * 3) = 3 := by omega
          have bad' : ¬ (0 ≤ x.a ∧ 0 ≤ x.b ∧ x.a < n ∧ x.b < n ∧ x.a ≠ x.b ∧ 0 ≤ x.c ∧ x.c ≤ 1000000000) → r = .int .i64 30 := fun h => bad (.inr (.inr (.inr (List.any_eq_true.2 ⟨x, hxm, by
            cases e : arcOk n x with
            | false => rfl
            | true => exact absurd (arcOk_iff.1 e) h⟩))))
          have hn30 : ¬ (30 : Int) = 0 := by omega
          simp [h1, h3, hlt, hltI, V4, -lenA]
          simp [h1, h3, hVs, hlt, hltI, hat, hi3, hi4]
          intro b4 hb4
          simp at hb4
          simp [h1, h3, hb4, splice]
          by_cases p1 : x.a < 0
          · simp [h1, h3, hb4, p1]
            refine finA_drop ?_
            exact (bad' (by omega)).symm
          · by_cases p2 : n ≤ x.a
            · simp [h1, h3, hb4, p1, p2]
              refine finA_drop ?_
              exact (bad' (by omega)).symm
            · by_cases p3 : x.b < 0
              · simp [h1, h3, hb4, p1, p2, p3]
                refine finA_drop ?_
                exact (bad' (by omega)).symm
              · by_cases p4 : n ≤ x.b
                · simp [h1, h3, hb4, p1, p2, p3, p4]
                  refine finA_drop ?_
                  exact (bad' (by omega)).symm
                · by_cases p5 : x.a = x.b
                  · simp [h1, h3, hb4, p1, p2, p3, p4, p5]
                    refine finA_drop ?_
                    exact (bad' (by omega)).symm
                  · by_cases p6 : x.c < 0
                    · simp [h1, h3, hb4, p1, p2, p3, p4, p5, p6]
                      refine finA_drop ?_
                      exact (bad' (by omega)).symm
                    · by_cases p7 : 1000000000 < x.c
                      · simp [h1, h3, hb4, p1, p2, p3, p4, p5, p6, p7]
                        refine finA_drop ?_
                        exact (bad' (by omega)).symm
                      · simp [h1, h3, hb4, p1, p2, p3, p4, p5, p6, p7]
                        have hc' : ∀ y ∈ l.take (i + 1), arcOk n y = true := fun y hy => by
                          rw [List.take_succ_eq_append_getElem hlt] at hy
                          rcases List.mem_append.1 hy with h | h
                          · exact hc y h
                          · simp at h; rw [h, ← hx]; exact arcOk_iff.2 (by omega)
                        refine turnA_to (AHeap.empty.upd b1 (.cells [.int .i64 n, .sl l.length (arcC l)])) ?_ ⟨i + 1, by omega, by omega, hc', by simp [h1, h3, hwi, hVs]⟩
                        exact Drop.new (Drop.refl _) (by simp [hb4])
        · obtain rfl : i = l.length := by omega
          simp [h1, h3, V4, -lenA]
          refine finA_drop ?_
          rw [hr, chkNet, if_neg]
          simp only [not_or]
          refine ⟨q1, q2, q3, fun h => ?_⟩
          obtain ⟨y, hy, hy2⟩ := List.any_eq_true.1 h
          rw [List.take_length] at hc
          rw [hc y hy] at hy2; cases hy2
end Go.Proofs

end

section
/-
  Flow, the reference: whether numbers are a flow.
-/
namespace Go.Proofs
open Go Go.AH
set_option maxRecDepth 10000
set_option maxHeartbeats 4000000

theorem l_Value (n : Int) (l : List RArc) (hl : l.length ≤ 200) (ha : ∀ x ∈ l, x.a ≠ x.b ∧ x.c ≤ 1000000000) {V : AV} (hV : ArcsV V l) (fs : List Int) (hll : fs.length = l.length) (hc : capsOk l fs l.length) (p : Int) :
    Pure Try.prog 58 [.agg [.int .i64 n, V], intL fs, .int .i64 p] (.int .i64 (vl l (fun j => fs.getD j 0) l.length p)) := by
  refine pure_of (acalls_of Try.func58 rfl Try.call58 (by kernel_rfl) (by show _ ≤ (45 : Nat); simp) ?_)
  obtain ⟨V1, V2, V3, V4, _, Vs⟩ := hV
  obtain ⟨f, hf⟩ : ∃ f : Nat → Int, f = fun j => fs.getD j 0 := ⟨_, rfl⟩
  rw [← hf]
  obtain ⟨r, hr⟩ : ∃ r, r = AV.int .i64 (vl l f l.length p) := ⟨_, rfl⟩
  rw [← hr]
  have hbd := fun (n : Nat) (hn : n ≤ l.length) => vl_bound (l := l) (f := f) (p := p) (n := n) fun j hj => by
    have h1 := hc j (by omega)
    have h2 := ha (arcAt l j) (by unfold arcAt; rw [List.getD_eq_getElem?_getD, List.getElem?_eq_getElem (by omega)]; simp)
    rw [hf]; simp only; omega
  simp [V1, V2, V3]
  intro b3 hb3
  simp [V1, V2, V3]
  refine awp_loop_g (γ := Nat) (fun i t h => (i ≤ l.length) ∧ t 1 = intL fs ∧ t 2 = .int .i64 p ∧ t 3 = .ptr b3 0 ∧ t 7 = .int .i64 (vl l f i p) ∧ t 8 = .int .i64 i ∧ h = AHeap.empty.upd b3 (.cells [.int .i64 n, V])) (fun i => l.length - i) (0) (turnA_self (by simp [vl, sm])) ?_
  rintro i t h ⟨hi, h1, h2, h3, h7, h8, rfl⟩
  by_cases hlt : i < l.length
  · have hltI : (i : Int) < (l.length : Int) := by omega
    have hwi : IntKind.i64.wrap ((i : Int) + 1) = (i : Int) + 1 := wrap_i64 (by omega) (by omega)
    have hfne : ¬ fs = [] := fun e => by rw [e] at hll; simp at hll; omega
    have hFs : intL fs = .sl fs.length (intC fs) := by unfold intL; rw [if_neg hfne]
    have hVs := Vs (fun e => by rw [e] at hlt; simp at hlt)
    have hat := arcC_at hlt
    obtain ⟨x, hx⟩ : ∃ x, x = l[i] := ⟨_, rfl⟩
    rw [← hx] at hat
    have hxm : x ∈ l := hx ▸ List.getElem_mem hlt
    have hxa : arcAt l i = x := by unfold arcAt; rw [List.getD_eq_getElem?_getD, List.getElem?_eq_getElem hlt, hx]; rfl
    have hxo := ha x hxm
    obtain ⟨y, hy⟩ : ∃ y, y = fs[i]'(by omega) := ⟨_, rfl⟩
    have hy' : fs[i]? = some y := by rw [hy]; exact List.getElem?_eq_getElem (by omega)
    have hyf : f i = y := by rw [hf]; simp only; rw [List.getD_eq_getElem?_getD, hy']; rfl
    have hyc := hc i hlt
    rw [List.getD_eq_getElem?_getD, hy', hxa] at hyc
    simp only [Option.getD_some] at hyc
    have hi3 : 3 ≤ l.length * 3 - i * 3 := by omega
    have hi4 : min 3 (l.length * 3 - i * 3) = 3 := by omega
    have hifs : i < fs.length := by omega
    have hifsI : (i : Int) < (fs.length : Int) := by omega
    have hvs := vl_succ (l := l) (f := f) (n := i) (p := p)
    rw [hxa, hyf] at hvs
    obtain ⟨g, hg⟩ : ∃ g, g = vl l f i p := ⟨_, rfl⟩
    obtain ⟨g', hg'⟩ : ∃ g', g' = vl l f (i + 1) p := ⟨_, rfl⟩
    have hgb := hbd i (by omega)
    rw [← hg] at hgb hvs
    rw [← hg'] at hvs
    have w1 : IntKind.i64.wrap (g + y) = g + y := wrap_i64 (by omega) (by omega)
    have w2 : IntKind.i64.wrap (g - y) = g - y := wrap_i64 (by omega) (by omega)
    have h7' : g = vl l f i p := hg
    simp [h1, h2, h3, h7, h8, hlt, hltI, V4, -lenA]
    simp [h1, h2, h3, h7, h8, hVs, hlt, hltI, hat, hi3, hi4, ← hg]
    by_cases p1 : x.a = p
    · have p2 : ¬ x.b = p := fun e => hxo.1 (by rw [p1, e])
      rw [if_pos p1, if_neg p2] at hvs
      simp [h1, h2, h3, h7, h8, hVs, hlt, hltI, hat, hi3, hi4, ← hg, p1, p2, hFs, intC_at hy', hifs, hifsI, w1, hll]
      exact turnA_self ⟨i + 1, by omega, by omega, by simp [h1, h2, h3, h7, h8, hwi, hVs, hFs, hll, ← hg', hvs]⟩
    · by_cases p2 : x.b = p
      · rw [if_neg p1, if_pos p2] at hvs
        simp [h1, h2, h3, h7, h8, hVs, hlt, hltI, hat, hi3, hi4, ← hg, p1, p2, hFs, intC_at hy', hifs, hifsI, w2, hll]
        exact turnA_self ⟨i + 1, by omega, by omega, by simp [h1, h2, h3, h7, h8, hwi, hVs, hFs, hll, ← hg', hvs]; try omega⟩
      · rw [if_neg p1, if_neg p2] at hvs
        simp [h1, h2, h3, h7, h8, hVs, hlt, hltI, hat, hi3, hi4, ← hg, p1, p2]
        exact turnA_self ⟨i + 1, by omega, by omega, by simp [h1, h2, h3, h7, h8, hwi, hVs, hFs, hll, ← hg', hvs, ← hg]⟩
  · obtain rfl : i = l.length := by omega
    simp [h1, h2, h3, h7, h8, V4, -lenA]
    refine finA_drop ?_
    exact hr.symm
theorem l_IsFlow (n : Int) (l : List RArc) (hl : l.length ≤ 1000000) (s T : Int) {V : AV} (hV : ArcsV V l) (fs : List Int) (hfs : fs.length ≤ 1000000) : Pure Try.prog 21 [.agg [.int .i64 n, V], .int .i64 s, .int .i64 T, intL fs] (isFlowA n l s T fs) := by
  obtain ⟨r, hr⟩ : ∃ r, r = isFlowA n l s T fs := ⟨_, rfl⟩
  rw [← hr]
  refine pure_of (acalls_of Try.func21 rfl Try.call21 (by kernel_rfl) (by show _ ≤ (80 : Nat); simp) ?_)
  have ck := l_Check n l hl hV
  have ce := l_Ends n s T
  have hV' := hV
  obtain ⟨V1, V2, V3, V4, _, Vs⟩ := hV
  have bad : ¬ (chkNet n l = 0 ∧ endsB n s T = true ∧ fs.length = l.length ∧ capsOk l fs l.length ∧ balOk l fs s T n.toNat) → r = .tup [.int .i64 0, .bool false] := fun h => by rw [hr, isFlowA, if_neg h]
  simp [V1, V2, V3]
  intro b4 hb4
  simp [V1, V2, V3]
  refine ck.use ?_
  by_cases h0 : chkNet n l = 0
  · rw [h0]
    simp [V1, V2, V3]
    refine ce.use ?_
    cases he : endsB n s T with
    | false =>
      simp
      refine finA_drop ?_
      exact (bad fun q => by rw [he] at q; cases q.2.1).symm
    | true =>
      simp [-lenA, lenA41, V4]
      by_cases hll : fs.length = l.length
      · have hllI : (fs.length : Int) = (l.length : Int) := by omega
        simp [hllI, hll, -lenA, lenA41, V4]
        obtain ⟨P, rfl, O⟩ := chk_ok h0
        have he' := he
        simp only [endsB, Bool.and_eq_true, decide_eq_true_eq] at he'
        obtain ⟨⟨⟨⟨e1, e2⟩, e3⟩, e4⟩, e5⟩ := he'
        have P24 := O.P24
        have l200 := O.len
        refine awp_loop_g (γ := Nat) (fun i t h => (i ≤ l.length) ∧ (capsOk l fs i) ∧ t 1 = .int .i64 s ∧ t 2 = .int .i64 T ∧ t 3 = intL fs ∧ t 4 = .ptr b4 0 ∧ t 10 = .int .i64 i ∧ h = AHeap.empty.upd b4 (.cells [.int .i64 P, V])) (fun i => l.length - i) (0) (turnA_self (by simp [capsOk])) ?_
        rintro i t h ⟨hi, hc, h1, h2, h3, h4, h10, rfl⟩
        by_cases hlt : i < l.length
        · have hltI : (i : Int) < (l.length : Int) := by omega
          have hwi : IntKind.i64.wrap ((i : Int) + 1) = (i : Int) + 1 := wrap_i64 (by omega) (by omega)
          have hfne : ¬ fs = [] := fun e => by rw [e] at hll; simp at hll; omega
          have hFs : intL fs = .sl fs.length (intC fs) := by unfold intL; rw [if_neg hfne]
          have hVs := Vs (fun e => by rw [e] at hlt; simp at hlt)
          have hat := arcC_at hlt
          obtain ⟨x, hx⟩ : ∃ x, x = l[i] := ⟨_, rfl⟩
          rw [← hx] at hat
          have hxa : arcAt l i = x := by unfold arcAt; rw [List.getD_eq_getElem?_getD, List.getElem?_eq_getElem hlt, hx]; rfl
          obtain ⟨y, hy⟩ : ∃ y, y = fs[i]'(by omega) := ⟨_, rfl⟩
          have hy' : fs[i]? = some y := by rw [hy]; exact List.getElem?_eq_getElem (by omega)
          have hyd : fs.getD i 0 = y := by rw [List.getD_eq_getElem?_getD, hy']; rfl
          have hi3 : 3 ≤ l.length * 3 - i * 3 := by omega
          have hi4 : min 3 (l.length * 3 - i * 3) = 3 := by omega
          have hifs : i < fs.length := by omega
          have hifsI : (i : Int) < (fs.length : Int) := by omega
          simp [h1, h2, h3, h4, h10, hlt, hltI, -lenA, lenA41, hll]
          refine awp_draw_text (by kernel_rfl) [] [] (by kernel_rfl) (by kernel_rfl) (by simp) ?_
          by_cases hy0 : y < 0
          · simp [h1, h2, h3, h4, h10, hFs, intC_at hy', hifs, hifsI, hy0, hll, hlt, hltI]
            refine finA_drop ?_
            exact (bad fun q => by have := q.2.2.2.1 i hlt; omega).symm
          · by_cases hyc : x.c < y
            · simp [h1, h2, h3, h4, h10, hFs, intC_at hy', hifs, hifsI, hy0, hyc, hll, hlt, hltI, hVs, hat, hi3, hi4]
              refine finA_drop ?_
              exact (bad fun q => by have := q.2.2.2.1 i hlt; rw [hxa] at this; omega).symm
            · have hc' : capsOk l fs (i + 1) := fun j hj => by
                by_cases e : j = i
                · rw [e, hyd, hxa]; omega
                · exact hc j (by omega)
              simp [h1, h2, h3, h4, h10, hFs, intC_at hy', hifs, hifsI, hy0, hyc, hll, hlt, hltI, hVs, hat, hi3, hi4]
              exact turnA_self ⟨i + 1, by omega, by omega, hc', by simp [h1, h2, h3, h4, h10, hwi, hVs, hFs, hll]⟩
        · obtain rfl : i = l.length := by omega
          have bad2 : ¬ balOk l fs s T P → r = .tup [.int .i64 0, .bool false] := fun h => bad fun q => h (by simpa using q.2.2.2.2)
          have cv := fun p => l_Value P l l200 (fun x hx => by have := arcOk_iff.1 (O.ok x hx); omega) hV' fs hll hc p
          obtain ⟨g, hg⟩ : ∃ g : Int → Int, g = fun p => vl l (fun j => fs.getD j 0) l.length p := ⟨_, rfl⟩
          have hgp : ∀ p, vl l (fun j => fs.getD j 0) l.length p = g p := fun p => by rw [hg]
          simp only [hgp] at cv
          simp [h1, h2, h3, h4, h10, -lenA, lenA41, hll]
          refine awp_loop_g (γ := Nat) (fun i t h => (i ≤ P) ∧ (balOk l fs s T i) ∧ t 1 = .int .i64 s ∧ t 2 = .int .i64 T ∧ t 3 = intL fs ∧ t 4 = .ptr b4 0 ∧ t 11 = .int .i64 i ∧ h = AHeap.empty.upd b4 (.cells [.int .i64 P, V])) (fun i => P - i) (0) (turnA_self (by simp [h1, h2, h3, h4, h10, balOk])) ?_
          rintro i t h ⟨hi, hb, h1, h2, h3, h4, h11, rfl⟩
          by_cases h24 : i < P
          · have h24I : (i : Int) < (P : Int) := by omega
            have hwi : IntKind.i64.wrap ((i : Int) + 1) = (i : Int) + 1 := wrap_i64 (by omega) (by omega)
            have nxt : ((i : Int) = s ∨ (i : Int) = T ∨ g i = 0) → balOk l fs s T (i + 1) := fun q p hp h1 h2 => by
              by_cases e : p = i
              · rcases q with q | q | q
                · rw [e] at h1; exact absurd q h1
                · rw [e] at h2; exact absurd q h2
                · rw [e, hgp]; exact q
              · exact hb p (by omega) h1 h2
            simp [h1, h2, h3, h4, h11, h24, h24I]
            by_cases q1 : (i : Int) = s
            · have hn := nxt (.inl q1)
              subst q1
              simp [h1, h2, h3, h4, h11]
              exact turnA_self ⟨i + 1, by omega, by omega, hn, by simp [h1, h2, h3, h4, h11, hwi]⟩
            · by_cases q2 : (i : Int) = T
              · have hn := nxt (.inr (.inl q2))
                subst q2
                simp [h1, h2, h3, h4, h11, q1]
                exact turnA_self ⟨i + 1, by omega, by omega, hn, by simp [h1, h2, h3, h4, h11, hwi]⟩
              · simp [h1, h2, h3, h4, h11, q1, q2, V1, V2, V3]
                refine (cv i).use ?_
                by_cases q3 : g i = 0
                · simp [h1, h2, h3, h4, h11, q1, q2, q3]
                  exact turnA_self ⟨i + 1, by omega, by omega, nxt (.inr (.inr q3)), by simp [h1, h2, h3, h4, h11, hwi]⟩
                · simp [h1, h2, h3, h4, h11, q1, q2, q3]
                  refine finA_drop ?_
                  exact (bad2 fun q => q3 (by rw [← hgp]; exact q i h24 q1 q2)).symm
          · obtain rfl : i = P := by omega
            simp [h1, h2, h3, h4, h11, V1, V2, V3]
            refine (cv s).use ?_
            simp [h1, h2, h3, h4, h11]
            refine finA_drop ?_
            rw [hr, isFlowA, if_pos ⟨h0, he, hll, hc, fun p hp => hb p (by simp at hp; omega)⟩, hgp]
      · have hllI : ¬ (fs.length : Int) = (l.length : Int) := by omega
        simp [hllI, hll, -lenA, lenA41, V4]
        refine finA_drop ?_
        exact (bad fun q => hll q.2.2.1).symm
  · simp [h0]
    refine finA_drop ?_
    exact (bad fun q => h0 q.1).symm
end Go.Proofs

end

section
/-
  Flow, the reference: the capacities of all cuts.
-/
namespace Go.Proofs
open Go Go.AH
set_option maxRecDepth 10000
set_option maxHeartbeats 4000000

def capB (l : List RArc) (f : Nat → Bool) (n : Nat) : Int := sm (fun j => if (f (arcAt l j).a.toNat && !f (arcAt l j).b.toNat) = true then (arcAt l j).c else 0) n
theorem capB_succ {l : List RArc} {f : Nat → Bool} {n : Nat} : capB l f (n + 1) = capB l f n + (if (f (arcAt l n).a.toNat && !f (arcAt l n).b.toNat) = true then (arcAt l n).c else 0) := rfl
theorem capB_bound {l : List RArc} {f : Nat → Bool} : ∀ {n : Nat}, (∀ j, j < n → 0 ≤ (arcAt l j).c ∧ (arcAt l j).c ≤ 1000000000) → 0 ≤ capB l f n ∧ capB l f n ≤ n * 1000000000
  | 0, _ => by simp [capB, sm]
  | n + 1, h => by
    have h1 := capB_bound (l := l) (f := f) (n := n) fun j hj => h j (by omega)
    have h2 := h n (by omega)
    rw [capB_succ]
    split <;> omega
theorem shr_bit (k i : Nat) (hi : i ≤ 64) : ((k : Int).fdiv (2 ^ min i IntKind.i64.bits)).tmod 2 = ((k / 2 ^ i % 2 : Nat) : Int) := by
  rw [show min i IntKind.i64.bits = i from Nat.min_eq_left (show i ≤ 64 from hi)]
  rw [Int.fdiv_eq_ediv_of_nonneg _ (by exact Int.le_of_lt (Int.pow_pos (by omega)))]
  rw [show ((2 : Int) ^ i) = ((2 ^ i : Nat) : Int) from by simp]
  rw [← Int.natCast_ediv, Int.tmod_eq_emod_of_nonneg (Int.natCast_nonneg _)]
  rfl
theorem bit_cases (k i : Nat) : (k.testBit i = true ∧ (k : Int) / 2 ^ i % 2 = 1) ∨ (k.testBit i = false ∧ (k : Int) / 2 ^ i % 2 = 0) := by
  have h := Nat.testBit_eq_decide_div_mod_eq (x := k) (i := i)
  have h2 : ((k / 2 ^ i % 2 : Nat) : Int) = (k : Int) / 2 ^ i % 2 := by simp
  by_cases e : k / 2 ^ i % 2 = 1
  · left; exact ⟨by rw [h]; simp [e], by rw [← h2, e]; rfl⟩
  · right; exact ⟨by rw [h]; simp [e], by rw [← h2, show k / 2 ^ i % 2 = 0 from by omega]; rfl⟩
theorem l_bits (P : Nat) (l : List RArc) (O : ArcsOk P l fun _ => 0) {V : AV} (hV : ArcsV V l) (k : Nat) (hk : k < 2 ^ 24) : Pure Try.prog 57 [.agg [.int .i64 P, V], .int .i64 k] (.int .i64 (capB l (fun p => k.testBit p) l.length)) := by
  refine pure_of (acalls_of Try.func57 rfl Try.call57 (by kernel_rfl) (by show _ ≤ (47 : Nat); simp) ?_)
  obtain ⟨V1, V2, V3, V4, _, Vs⟩ := hV
  obtain ⟨r, hr⟩ : ∃ r, r = AV.int .i64 (capB l (fun p => k.testBit p) l.length) := ⟨_, rfl⟩
  rw [← hr]
  have P24 := O.P24
  have l200 := O.len
  have hok : ∀ j, j < l.length → arcOk P (arcAt l j) = true := fun j hj => O.ok _ (by unfold arcAt; rw [List.getD_eq_getElem?_getD, List.getElem?_eq_getElem (by omega)]; simp)
  have hbd := fun (n : Nat) (hn : n ≤ l.length) => capB_bound (l := l) (f := fun p => k.testBit p) (n := n) fun j hj => by
    have := arcOk_iff.1 (hok j (by omega)); omega
  simp [V1, V2, V3]
  intro b2 hb2
  simp [V1, V2, V3]
  refine awp_loop_g (γ := Nat) (fun i t h => (i ≤ l.length) ∧ t 1 = .int .i64 k ∧ t 2 = .ptr b2 0 ∧ t 5 = .int .i64 (capB l (fun p => k.testBit p) i) ∧ t 6 = .int .i64 i ∧ h = AHeap.empty.upd b2 (.cells [.int .i64 P, V])) (fun i => l.length - i) (0) (turnA_self (by simp [capB, sm])) ?_
  rintro i t h ⟨hi, h1, h2, h5, h6, rfl⟩
  by_cases hlt : i < l.length
  · have hltI : (i : Int) < (l.length : Int) := by omega
    have hwi : IntKind.i64.wrap ((i : Int) + 1) = (i : Int) + 1 := wrap_i64 (by omega) (by omega)
    have hVs := Vs (fun e => by rw [e] at hlt; simp at hlt)
    have hat := arcC_at hlt
    obtain ⟨x, hx⟩ : ∃ x, x = l[i] := ⟨_, rfl⟩
    rw [← hx] at hat
    have hxa : arcAt l i = x := by unfold arcAt; rw [List.getD_eq_getElem?_getD, List.getElem?_eq_getElem hlt, hx]; rfl
    have hxo := arcOk_iff.1 (hok i hlt)
    rw [hxa] at hxo
    have hi3 : 3 ≤ l.length * 3 - i * 3 := by omega
    have hi4 : min 3 (l.length * 3 - i * 3) = 3 := by omega
    obtain ⟨A, hA⟩ : ∃ A : Nat, x.a = A := ⟨x.a.toNat, by omega⟩
    obtain ⟨B, hB⟩ : ∃ B : Nat, x.b = B := ⟨x.b.toNat, by omega⟩
    have wA : IntKind.u64.wrap (A : Int) = A := wrap_u64 (by omega) (by omega)
    have wB : IntKind.u64.wrap (B : Int) = B := wrap_u64 (by omega) (by omega)
    have sA := shr_bit k A (by omega)
    have sB := shr_bit k B (by omega)
    have hsc := capB_succ (l := l) (f := fun p => k.testBit p) (n := i)
    rw [hxa, hA, hB] at hsc
    simp only [Int.toNat_natCast] at hsc
    obtain ⟨g, hg⟩ : ∃ g, g = capB l (fun p => k.testBit p) i := ⟨_, rfl⟩
    obtain ⟨g', hg'⟩ : ∃ g', g' = capB l (fun p => k.testBit p) (i + 1) := ⟨_, rfl⟩
    have hgb := hbd i (by omega)
    rw [← hg] at hgb hsc
    rw [← hg'] at hsc
    have w1 : IntKind.i64.wrap (g + x.c) = g + x.c := wrap_i64 (by omega) (by omega)
    simp [h1, h2, h5, h6, hlt, hltI, V4, -lenA]
    simp [h1, h2, h5, h6, hVs, hlt, hltI, hat, hi3, hi4, ← hg, hA, hB, wA, wB, sA, sB]
    rcases bit_cases k A with ⟨bA, qA⟩ | ⟨bA, qA⟩
    · rcases bit_cases k B with ⟨bB, qB⟩ | ⟨bB, qB⟩
      · simp [bA, bB] at hsc
        simp [h1, h2, h5, h6, hVs, hlt, hltI, hat, hi3, hi4, ← hg, hA, hB, wA, wB, sA, sB, qA, qB]
        exact turnA_self ⟨i + 1, by omega, by omega, by simp [h1, h2, h5, h6, hwi, hVs, ← hg', hsc, ← hg]⟩
      · simp [bA, bB] at hsc
        simp [h1, h2, h5, h6, hVs, hlt, hltI, hat, hi3, hi4, ← hg, hA, hB, wA, wB, sA, sB, qA, qB, w1]
        exact turnA_self ⟨i + 1, by omega, by omega, by simp [h1, h2, h5, h6, hwi, hVs, ← hg', hsc, ← hg]⟩
    · simp [bA] at hsc
      simp [h1, h2, h5, h6, hVs, hlt, hltI, hat, hi3, hi4, ← hg, hA, hB, wA, wB, sA, sB, qA]
      exact turnA_self ⟨i + 1, by omega, by omega, by simp [h1, h2, h5, h6, hwi, hVs, ← hg', hsc, ← hg]⟩
  · obtain rfl : i = l.length := by omega
    simp [h1, h2, h5, h6, V4, -lenA]
    refine finA_drop ?_
    exact hr.symm
structure LX where
  k : Nat
  best : Int
  common : Nat
theorem l_Least (P : Nat) (l : List RArc) (O : ArcsOk P l fun _ => 0) {V : AV} (hV : ArcsV V l) (s T : Nat) (hs : s < P) (hT : T < P) (v : Int) (m : Nat) (L : LeastIs P s T (fun k => capB l (fun p => k.testBit p) l.length) v m) :
    Pure Try.prog 20 [.agg [.int .i64 P, V], .int .i64 s, .int .i64 T] (.tup [.int .i64 v, natL (memL P m)]) := by
  refine pure_of (acalls_of Try.func20 rfl Try.call20 (by kernel_rfl) (by show _ ≤ (57 : Nat); simp) ?_)
  have cb := fun (k : Nat) (hk : k < 2 ^ P) => l_bits P l O hV k (Nat.lt_of_lt_of_le hk (Nat.pow_le_pow_right (by omega) O.P24))
  obtain ⟨V1, V2, V3, V4, _, Vs⟩ := hV
  have P24 := O.P24
  have hpow : 2 ^ P ≤ 2 ^ 24 := Nat.pow_le_pow_right (by omega) P24
  have hpow1 : 1 ≤ 2 ^ P := Nat.one_le_two_pow
  have w1 : IntKind.u64.wrap (P : Int) = P := wrap_u64 (by omega) (by omega)
  have ws : IntKind.u64.wrap (s : Int) = s := wrap_u64 (by omega) (by omega)
  have wT : IntKind.u64.wrap (T : Int) = T := wrap_u64 (by omega) (by omega)
  have w2 : IntKind.i64.wrap (2 ^ min P IntKind.i64.bits) = ((2 ^ P : Nat) : Int) := by
    rw [show min P IntKind.i64.bits = P from Nat.min_eq_left (show P ≤ 64 by omega), show ((2 : Int) ^ P) = ((2 ^ P : Nat) : Int) from by simp]
    exact wrap_i64 (by omega) (by omega)
  have hmem := l_Members P m (by omega) (Nat.lt_of_lt_of_le L.lt hpow)
  obtain ⟨cp, hcp⟩ : ∃ cp : Nat → Int, cp = fun k => capB l (fun p => k.testBit p) l.length := ⟨_, rfl⟩
  have hcpk : ∀ k, capB l (fun p => k.testBit p) l.length = cp k := fun k => by rw [hcp]
  rw [← hcp] at L
  simp only [hcpk] at cb
  obtain ⟨N, hN⟩ : ∃ N, N = 2 ^ P := ⟨_, rfl⟩
  have w2' : IntKind.i64.wrap (2 ^ min P IntKind.i64.bits) = (N : Int) := by rw [w2, hN]
  rw [← hN] at hpow
  simp [V1, V2, V3]
  intro b3 hb3
  simp [V1, V2, V3]
  refine awp_loop_g (γ := LX) (fun x t h => (x.k ≤ N) ∧ (Seek v m x.k x.best x.common) ∧ (x.common < 2 ^ 24) ∧ t 1 = .int .i64 s ∧ t 2 = .int .i64 T ∧ t 3 = .ptr b3 0 ∧ t 8 = .int .i64 x.best ∧ t 9 = .int .i64 x.common ∧ t 10 = .int .i64 x.k ∧ h = AHeap.empty.upd b3 (.cells [.int .i64 P, V])) (fun x => N - x.k) (⟨0, -1, 0⟩) (turnA_self (by simp [Seek.init L])) ?_
  rintro x t h ⟨hi, hS, hc, h1, h2, h3, h8, h9, h10, rfl⟩
  obtain ⟨k, best, common⟩ := x
  simp only at h1 h2 h3 h8 h9 h10 hi hS hc
  by_cases hlt : k < N
  · have hltI : (k : Int) < (N : Int) := by omega
    have hk2 : k < 2 ^ P := hN ▸ hlt
    have hwi : IntKind.i64.wrap ((k : Int) + 1) = (k : Int) + 1 := wrap_i64 (by omega) (by omega)
    have sS := shr_bit k s (by omega)
    have sT := shr_bit k T (by omega)
    simp [h1, h2, h3, h8, h9, h10, hltI, hlt, w1, w2', ws, wT, sS, sT]
    rcases bit_cases k s with ⟨bS, qS⟩ | ⟨bS, qS⟩
    · rcases bit_cases k T with ⟨bT, qT⟩ | ⟨bT, qT⟩
      · simp [h1, h2, h3, h8, h9, h10, ws, wT, sS, sT, qS, qT]
        exact turnA_self ⟨⟨k + 1, best, common⟩, by simp only; omega, by simp only; omega, hS.out L (fun q => by rw [bT] at q; cases q.2), hc, by simp [h1, h2, h3, h8, h9, h10, hwi]⟩
      · simp [h1, h2, h3, h8, h9, h10, ws, wT, sS, sT, qS, qT, V1, V2, V3]
        refine (cb k hk2).use ?_
        by_cases c1 : best < 0
        · simp [h1, h2, h3, h8, h9, h10, c1]
          exact turnA_self ⟨⟨k + 1, cp k, k⟩, by simp only; omega, by simp only; omega, hS.new L hk2 bS bT (.inl c1), by simp only; omega, by simp [h1, h2, h3, h8, h9, h10, hwi]⟩
        · by_cases c2 : cp k < best
          · simp [h1, h2, h3, h8, h9, h10, c1, c2]
            exact turnA_self ⟨⟨k + 1, cp k, k⟩, by simp only; omega, by simp only; omega, hS.new L hk2 bS bT (.inr c2), by simp only; omega, by simp [h1, h2, h3, h8, h9, h10, hwi]⟩
          · by_cases c3 : cp k = best
            · have hand : common &&& k < 2 ^ 24 := Nat.lt_of_le_of_lt Nat.and_le_left hc
              have e1 : common % 2 ^ IntKind.i64.bits = common := Nat.mod_eq_of_lt (by show common < 2 ^ 64; omega)
              have e2 : k % 2 ^ IntKind.i64.bits = k := Nat.mod_eq_of_lt (by show k < 2 ^ 64; omega)
              have wa : IntKind.i64.wrap ((common &&& k : Nat) : Int) = ((common &&& k : Nat) : Int) := wrap_i64 (by omega) (by omega)
              simp [h1, h2, h3, h8, h9, h10, c1, c2, c3, e1, e2, wa]
              exact turnA_self ⟨⟨k + 1, best, common &&& k⟩, by simp only; omega, by simp only; omega, hS.same L hk2 bS bT c3, hand, by simp [h1, h2, h3, h8, h9, h10, hwi]⟩
            · simp [h1, h2, h3, h8, h9, h10, c1, c2, c3]
              exact turnA_self ⟨⟨k + 1, best, common⟩, by simp only; omega, by simp only; omega, hS.more L hk2 bS bT c1 c2 c3, hc, by simp [h1, h2, h3, h8, h9, h10, hwi]⟩
    · simp [h1, h2, h3, h8, h9, h10, ws, wT, sS, sT, qS]
      exact turnA_self ⟨⟨k + 1, best, common⟩, by simp only; omega, by simp only; omega, hS.out L (fun q => by rw [bS] at q; cases q.1), hc, by simp [h1, h2, h3, h8, h9, h10, hwi]⟩
  · obtain rfl : k = N := by omega
    rw [hN] at hS
    obtain ⟨d1, d2⟩ := hS.done L
    subst d1 d2
    simp [h1, h2, h3, h8, h9, h10, w1, w2']
    refine hmem.use ?_
    simp [h1, h2, h3, h8, h9, h10]
    exact finA_drop rfl
end Go.Proofs

end

section
/-
  Flow: ends; lists that are the same.
-/
namespace Go.Proofs
open Go Go.AH
set_option maxRecDepth 10000
set_option maxHeartbeats 4000000

theorem w_ends (P : Nat) (hP : 2 ≤ P ∧ P ≤ 24) (a b : Int) : ∃ s T : Nat, s < P ∧ T < P ∧ s ≠ T ∧ Pure Try.prog 17 [.int .i64 P, .agg [.int .i64 a, .int .i64 b]] (.tup [.int .i64 s, .int .i64 T]) := by
  have ua := u64_nonneg a
  have ub := u64_nonneg b
  have hPne : ¬ (P : Int) = 0 := by omega
  have hPn0 : ¬ P = 0 := by omega
  obtain ⟨A, hA⟩ : ∃ A : Nat, IntKind.u64.wrap a % (P : Int) = A := ⟨(IntKind.u64.wrap a % (P : Int)).toNat, by have := Int.emod_nonneg (IntKind.u64.wrap a) hPne; omega⟩
  obtain ⟨B, hB⟩ : ∃ B : Nat, IntKind.u64.wrap b % (P : Int) = B := ⟨(IntKind.u64.wrap b % (P : Int)).toNat, by have := Int.emod_nonneg (IntKind.u64.wrap b) hPne; omega⟩
  have hA2 : A < P := by have := Int.emod_lt_of_pos (IntKind.u64.wrap a) (show (0 : Int) < P by omega); omega
  have hB2 : B < P := by have := Int.emod_lt_of_pos (IntKind.u64.wrap b) (show (0 : Int) < P by omega); omega
  have uP : IntKind.u64.wrap (P : Int) = (P : Int) := wrap_u64 (by omega) (by omega)
  have ta : (IntKind.u64.wrap a).tmod (P : Int) = A := by rw [Int.tmod_eq_emod_of_nonneg ua.1, hA]
  have tb : (IntKind.u64.wrap b).tmod (P : Int) = B := by rw [Int.tmod_eq_emod_of_nonneg ub.1, hB]
  have wA : IntKind.i64.wrap (A : Int) = A := wrap_i64 (by omega) (by omega)
  have wB : IntKind.i64.wrap (B : Int) = B := wrap_i64 (by omega) (by omega)
  have wA1 : IntKind.i64.wrap ((A : Int) + 1) = (A : Int) + 1 := wrap_i64 (by omega) (by omega)
  have ta1 : ((A : Int) + 1).tmod (P : Int) = ((A + 1) % P : Nat) := by
    rw [Int.tmod_eq_emod_of_nonneg (by omega), show (A : Int) + 1 = ((A + 1 : Nat) : Int) from by omega]; rfl
  have h3 : (A + 1) % P < P := Nat.mod_lt _ (by omega)
  have h4 : A ≠ (A + 1) % P := by
    by_cases e : A + 1 = P
    · rw [e, Nat.mod_self]; omega
    · rw [Nat.mod_eq_of_lt (by omega)]; omega
  by_cases q : A = B
  · refine ⟨A, (A + 1) % P, hA2, h3, h4, pure_of (acalls_of Try.func17 rfl Try.call17 (by kernel_rfl) (by show _ ≤ (31 : Nat); simp) ?_)⟩
    subst q
    simp
    intro b3 hb3
    simp [hPne, hPn0, uP, ta, tb, wA, wB, wA1, ta1]
    refine finA_drop ?_
    rfl
  · refine ⟨A, B, hA2, hB2, q, pure_of (acalls_of Try.func17 rfl Try.call17 (by kernel_rfl) (by show _ ≤ (31 : Nat); simp) ?_)⟩
    have qI : ¬ (A : Int) = (B : Int) := by omega
    simp
    intro b3 hb3
    simp [hPne, hPn0, uP, ta, tb, wA, wB, q, qI]
    refine finA_drop ?_
    rfl
theorem w_same (l : List Nat) (hl : l.length ≤ 1000000) : Pure Try.prog 22 [natL l, natL l] (.bool true) := by
  refine pure_of (acalls_of Try.func22 rfl Try.call22 (by kernel_rfl) (by show _ ≤ (26 : Nat); simp) ?_)
  simp [-lenA, lenA_natL]
  refine awp_loop_g (γ := Nat) (fun i t h => (i ≤ l.length) ∧ t 0 = natL l ∧ t 1 = natL l ∧ t 5 = .int .i64 i ∧ h = AHeap.empty) (fun i => l.length - i) (0) (turnA_self (by simp)) ?_
  rintro i t h ⟨hi, h0, h1, h5, rfl⟩
  by_cases hlt : i < l.length
  · have hltI : (i : Int) < (l.length : Int) := by omega
    have hwi : IntKind.i64.wrap ((i : Int) + 1) = (i : Int) + 1 := wrap_i64 (by omega) (by omega)
    have hV : natL l = .sl l.length (natC l) := by unfold natL; rw [if_neg (fun e => by rw [e] at hlt; simp at hlt)]
    obtain ⟨x, hx⟩ : ∃ x, x = l[i] := ⟨_, rfl⟩
    have hx' : l[i]? = some x := by rw [hx]; exact List.getElem?_eq_getElem hlt
    simp [h0, h1, h5, hlt, hltI, -lenA, lenA_natL]
    refine awp_draw_text (by kernel_rfl) [] [] (by kernel_rfl) (by kernel_rfl) (by simp) ?_
    simp [h0, h1, h5, hV, hlt, hltI, natC_at hx']
    exact turnA_self ⟨i + 1, by omega, by omega, by simp [h0, h1, h5, hwi, hV]⟩
  · obtain rfl : i = l.length := by omega
    simp [h0, h1, h5, -lenA, lenA_natL]
    exact finA_drop rfl
end Go.Proofs

end
