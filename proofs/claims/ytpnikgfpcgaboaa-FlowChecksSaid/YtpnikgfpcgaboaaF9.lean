/-
  Texts: FlK1 FlK2 FlK3 FlK4.
-/
import Derived.Test.YtpnikgfpcgaboaaFlR4
set_option linter.unusedSimpArgs false
set_option linter.unusedVariables false
set_option linter.unusedSectionVars false
section
/-
  Flow: boards.
-/
namespace Go.Proofs
open Go Go.AH
set_option maxRecDepth 10000
set_option maxHeartbeats 4000000

theorem l_board (n : Int) (l : List RArc) (hl : l.length ≤ 1000) : Pure Try.prog 35 [netV n l] (netV n l) := by
  refine pure_of (acalls_of Try.func35 rfl Try.call35 (by kernel_rfl) (by show _ ≤ (28 : Nat); simp) ?_)
  obtain ⟨V, hV⟩ : ∃ V, V = arcsL l := ⟨_, rfl⟩
  have hV1 : V.one = true := by rw [hV]; simp
  have hV2 : V.fit = true := by rw [hV]; simp
  have hV3 : V.cells = [V] := by rw [hV]; simp
  obtain ⟨N, hN⟩ : ∃ N, N = l.length := ⟨_, rfl⟩
  have hlen : ∀ h : AHeap, lenA Try.prog h 70 V = some (.int .i64 (N : Int)) := by
    intro h
    rw [hV, hN]
    unfold arcsL
    split
    · next e => subst e; simp
    · simp [arcsA]
  rw [show netV n l = .agg [.int .i64 n, V] from by rw [hV]; rfl]
  simp
  intro b1 hb1
  simp [hV1, hV2, hV3]
  intro b2 hb2
  simp at hb2
  simp [hb2]
  intro b3 hb3
  simp at hb3
  simp [hb2, hb3, splice]
  refine awp_loop_g (γ := At) (fun q t h => (q.i ≤ N) ∧ ((q.o = none ↔ q.i = 0) ∧ ¬ q.o = some b1 ∧ ¬ q.o = some b2 ∧ ¬ q.o = some b3) ∧ t 1 = .ptr b1 0 ∧ t 2 = .ptr b2 0 ∧ t 3 = .ptr b3 0 ∧ t 4 = .int .i64 q.i ∧ h = (((AHeap.empty.upd b1 (.cells [.int .i64 n, V])).upd b2 (.cells [.int .i64 0, .nilsl])).upd b3 (.cells [.int .i64 n, ownV q.o q.i 3])).updO q.o (arcC (l.take q.i))) (fun q => N - q.i) (⟨0, none⟩) (turnA_self (by simp [hb2, hb3])) ?_
  rintro q t hx ⟨hi, ho, h1, h2, h3, h4, ex⟩
  rw [ex]
  clear ex
  obtain ⟨i, o⟩ := q
  simp only at h1 h2 h3 h4 hi ho
  obtain ⟨ho1, ho2, ho3, ho4⟩ := ho
  by_cases hlt : i < N
  · have hwi : IntKind.i64.wrap ((i : Int) + 1) = (i : Int) + 1 := wrap_i64 (by omega) (by omega)
    have hin : i < l.length := by omega
    have hne : ¬ l = [] := fun e => by rw [e] at hin; simp at hin
    have hVs : V = .sl l.length (arcC l) := by rw [hV]; unfold arcsL arcsA; rw [if_neg hne]
    have hat := arcC_at hin
    have hts : arcC (l.take (i + 1)) = arcC (l.take i) ++ [.int .i64 l[i].a, .int .i64 l[i].b, .int .i64 l[i].c] := by
      rw [List.take_succ_eq_append_getElem hin, arcC_append]; rfl
    obtain ⟨y, hy⟩ : ∃ y, y = l[i] := ⟨_, rfl⟩
    rw [← hy] at hat hts
    have hz : zcells [.int .i64 0, .int .i64 0, .int .i64 0] 1 = [.int .i64 0, .int .i64 0, .int .i64 0] := rfl
    have hi3 : 3 ≤ l.length * 3 - i * 3 := by omega
    have hi4 : min 3 (l.length * 3 - i * 3) = 3 := by omega
    rw [hVs] at hV1 hV2 hV3 hlen ⊢
    simp [h1, h2, h3, h4, hlen, hlt, hb2, hb3, ho2, ho3, ho4, -lenA, hin, hat, hz, splice, hi3, hi4]
    try simp [h1, h2, h3, h4, hin, hlt, hb2, hb3, ho2, ho3, ho4, hat, hz, splice, hi3, hi4]
    intro b6 hb6
    simp [ho2, ho3, ho4] at hb6
    simp [h1, h2, h3, h4, hb6, hb2, hb3, ho2, ho3, ho4]
    refine appendA_updO (by omega) (by omega) (fun e => by rw [ho1.1 e]; rfl) (by simp; omega) (by simp) (by cases o with | none => simp | some b => simp at hb6 ho2 ho3 ho4 ⊢; grind) fun b' hb' => ?_
    simp [hb6, hb2, hb3, ho2, ho3, ho4] at hb'
    simp [h1, h2, h3, h4, hb', hb6, hb2, hb3, ho2, ho3, ho4]
    rw [← hts]
    refine turnA_to ((((AHeap.empty.upd b1 (.cells [.int .i64 n, .sl l.length (arcC l)])).upd b2 (.cells [.int .i64 0, .nilsl])).upd b3 (.cells [.int .i64 n, .osl b' 0 (i + 1) 3])).updO (some b') (arcC (l.take (i + 1)))) ?_ ⟨⟨i + 1, some b'⟩, by simp only; omega, by simp only; omega, by simp [hb'], by simp [h1, h2, h3, h4, hwi]⟩
    simp
    exact Drop.both (Drop.new (Drop.refl _) (by simp [hb6]))
  · have hiN : i = N := by omega
    have hRt : l.take i = l := List.take_of_length_le (by omega)
    simp [h1, h2, h3, h4, hlen, hlt, hb2, hb3, ho2, ho3, ho4, -lenA]
    rw [hRt]
    cases o with
    | none =>
      have hi0 := ho1.1 rfl
      have hle : l = [] := List.eq_nil_of_length_eq_zero (by omega)
      refine finA_drop ?_
      rw [hV, hle]
      rfl
    | some b =>
      have hne : ¬ l = [] := fun e => by
        have := ho1.2
        rw [e] at hN
        simp at hN
        have := this (by omega)
        cases this
      refine finA_all 3 ?_
      rw [frz_agg]
      simp only [List.map_cons, List.map_nil, ownV_some, updO_some]
      rw [frz_osl (by simp)]
      simp [hV, arcsL, arcsA, hne, hiN, hN]
      rw [map_frozen arcC_frozen]
      exact List.take_of_length_le (by simp)
theorem lenA_linksL {h : AHeap} (l : List RArc) : lenA Try.prog h 80 (arcsL l) = some (.int .i64 (l.length : Int)) := by
  unfold arcsL
  split
  · next e => subst e; simp
  · simp [arcsA]
theorem w_indexLink (l : List RArc) (hl : l.length ≤ 1000000) (f : AV) (p : RArc → Bool) (H : AHeap) (hp : ∀ x ∈ l, ACallV Try.prog f [arcV x] H fun r h' => r = .bool (p x) ∧ h' = H) :
    ACalls Try.prog 84 [arcsL l, f] H fun r h' => r = .int .i64 (idxArc l p) ∧ h' = H := by
  refine acalls_of Try.func84 rfl Try.call84 (by kernel_rfl) (by show _ ≤ (19 : Nat); simp) ?_
  simp [-lenA, lenA_linksL]
  refine awp_loop_g (γ := Nat) (fun k t h => (k ≤ l.length) ∧ (∀ i (hi : i < l.length), i < k → p l[i] = false) ∧ t 0 = arcsL l ∧ t 1 = f ∧ t 7 = .int .i64 l.length ∧ t 8 = .int .i64 k ∧ h = H) (fun k => l.length - k) (0) (turnA_self (by simp)) ?_
  rintro k t h ⟨hk, hno, h0, h1, h7, h8, rfl⟩
  by_cases hlt : k < l.length
  · have hw : IntKind.i64.wrap ((k : Int) + 1) = (k : Int) + 1 := wrap_i64 (by omega) (by omega)
    have hne : ¬ l = [] := fun e => by rw [e] at hlt; simp at hlt
    have hV : arcsL l = .sl l.length (arcC l) := by unfold arcsL arcsA; rw [if_neg hne]
    have hat := arcC_at hlt
    have hc := hp _ (List.getElem_mem hlt)
    obtain ⟨y, hy⟩ : ∃ y, y = l[k] := ⟨_, rfl⟩
    rw [← hy] at hat hc
    unfold arcV at hc
    have hi3 : 3 ≤ l.length * 3 - k * 3 := by omega
    have hi4 : min 3 (l.length * 3 - k * 3) = 3 := by omega
    simp [h0, h1, h7, h8, hlt, hV, hat, hi3, hi4]
    refine hc.use ?_
    simp
    refine condA_case ?_ ?_
    · intro hpk
      have h1' : l.any p = true := List.any_eq_true.2 ⟨l[k], List.getElem_mem hlt, by rw [← hy]; exact hpk⟩
      have h2 : l.findIdx p = k := by
        rw [List.findIdx_eq hlt]
        exact ⟨by rw [← hy]; exact hpk, fun i hi => hno i (by omega) hi⟩
      simp [h0, h1, h7, h8]
      refine finA_self ⟨?_, rfl⟩
      rw [idxArc, if_pos h1', h2]
    · intro hpk
      simp [h0, h1, h7, h8]
      exact turnA_self ⟨k + 1, by omega, by omega, fun i hi hik => by
        by_cases e : i = k
        · subst e; rw [← hy]; exact hpk
        · exact hno i hi (by omega), by simp [h0, h1, h7, h8, hw, hV]⟩
  · obtain rfl : k = l.length := by omega
    have h1' : l.any p = false := by
      rw [List.any_eq_false]
      intro x hx
      obtain ⟨i, hi, rfl⟩ := List.mem_iff_getElem.1 hx
      simp [hno i hi hi]
    simp [h0, h1, h7, h8]
    refine finA_self ⟨?_, rfl⟩
    rw [idxArc, h1']; rfl
theorem w_containsLink (l : List RArc) (hl : l.length ≤ 1000000) (f : AV) (p : RArc → Bool) (H : AHeap) (hp : ∀ x ∈ l, ACallV Try.prog f [arcV x] H fun r h' => r = .bool (p x) ∧ h' = H) :
    ACalls Try.prog 74 [arcsL l, f] H fun r h' => r = .bool (l.any p) ∧ h' = H := by
  refine acalls_of Try.func74 rfl Try.call74 (by kernel_rfl) (by show _ ≤ (9 : Nat); simp) ?_
  simp
  refine (w_indexLink l hl f p H hp).use ?_
  simp
  refine finA_self ⟨?_, rfl⟩
  by_cases h : l.any p = true
  · rw [idxArc, if_pos h, h]; simp
  · have h' : l.any p = false := by simpa using h
    rw [idxArc, if_neg h, h']; simp
theorem w_CheckB1 (n : Int) (V : AV) (H : AHeap) (b : Nat) (e : cellsAt H b 0 = some [.int .i64 n, V]) (x : RArc) : ACallV Try.prog (.fn (.func 75) [] [.ptr b 0]) [arcV x] H fun r h' => r = .bool (!arcOk n x) ∧ h' = H := by
  rw [ACallV_func]
  refine acalls_of Try.func75 rfl Try.call75 (by kernel_rfl) (by show _ ≤ (15 : Nat); simp) ?_
  have c := w_isArc n x
  unfold arcV at c ⊢
  simp
  intro b2 hb2
  have n2 := ne_fresh e hb2
  simp [e, n2]
  refine c.use ?_
  simp
  exact finA_same H (Drop.new (Drop.refl _) hb2) ⟨rfl, rfl⟩
theorem w_CheckBoard (n : Int) (l : List RArc) (hl : l.length ≤ 1000000) : Pure Try.prog 50 [netV n l] (.int .i64 (chkNet n l)) := by
  refine pure_of (acalls_of Try.func50 rfl Try.call50 (by kernel_rfl) (by show _ ≤ (23 : Nat); simp) ?_)
  obtain ⟨V, hV⟩ : ∃ V, V = arcsL l := ⟨_, rfl⟩
  have hV1 : V.one = true := by rw [hV]; simp
  have hV2 : V.fit = true := by rw [hV]; simp
  have hV3 : V.cells = [V] := by rw [hV]; simp
  have hlen : ∀ h : AHeap, lenA Try.prog h 80 V = some (.int .i64 (l.length : Int)) := fun h => by rw [hV]; exact lenA_linksL l
  obtain ⟨r, hr⟩ : ∃ r, r = chkNet n l := ⟨_, rfl⟩
  rw [← hr]
  unfold chkNet at hr
  rw [show netV n l = .agg [.int .i64 n, V] from by rw [hV]; rfl]
  simp
  intro b1 hb1
  simp [hV1, hV2, hV3]
  by_cases q1 : n < 2
  · have : r = 30 := by rw [hr, if_pos (.inl q1)]
    simp [q1]
    exact finA_drop (by rw [this])
  · by_cases q2 : 24 < n
    · have : r = 30 := by rw [hr, if_pos (.inr (.inl q2))]
      simp [q1, q2]
      exact finA_drop (by rw [this])
    · by_cases q3 : 200 < l.length
      · have q3I : 200 < (l.length : Int) := by omega
        have : r = 30 := by rw [hr, if_pos (.inr (.inr (.inl q3)))]
        simp [q1, q2, -lenA, hlen, q3I, q3]
        exact finA_drop (by rw [this])
      · have q3I : ¬ 200 < (l.length : Int) := by omega
        have cc := w_containsLink l hl (.fn (.func 75) [] [.ptr b1 0]) (fun x => !arcOk n x) (AHeap.empty.upd b1 (.cells [.int .i64 n, V])) (fun x _ => w_CheckB1 n V _ b1 (by simp) x)
        rw [← hV] at cc
        simp [q1, q2, -lenA, hlen, q3I, q3]
        refine cc.use ?_
        cases q4 : l.any (fun x => !arcOk n x) with
        | true =>
          have : r = 30 := by rw [hr, if_pos (.inr (.inr (.inr q4)))]
          simp
          exact finA_drop (by rw [this])
        | false =>
          have : r = 0 := by rw [hr, if_neg (by rw [q4]; rintro (h | h | h | h) <;> first | omega | cases h)]
          simp
          exact finA_drop (by rw [this])
/-- A list of links in either form. -/
structure LinksV (V : AV) (l : List RArc) : Prop where
  one : V.one = true
  fit : V.fit = true
  cells : V.cells = [V]
  len70 : ∀ h, lenA Try.prog h 70 V = some (.int .i64 (l.length : Int))
  len80 : ∀ h, lenA Try.prog h 80 V = some (.int .i64 (l.length : Int))
  sl : l ≠ [] → V = .sl l.length (arcC l)
theorem LinksV.l (l : List RArc) : LinksV (arcsL l) l where
  one := by simp
  fit := by simp
  cells := by simp
  len70 := fun h => by
    unfold arcsL arcsA
    split
    · next e => subst e; simp
    · simp
  len80 := fun h => lenA_linksL l
  sl := fun h => by unfold arcsL arcsA; rw [if_neg h]
theorem LinksV.a (l : List RArc) : LinksV (arcsA l) l where
  one := rfl
  fit := rfl
  cells := rfl
  len70 := fun h => by unfold arcsA; simp
  len80 := fun h => by unfold arcsA; simp
  sl := fun _ => rfl
theorem l_CheckBoard (n : Int) (l : List RArc) (hl : l.length ≤ 1000000) {V : AV} (hV : LinksV V l) : Pure Try.prog 48 [.agg [.int .i64 n, V]] (.int .i64 (chkNet n l)) := by
  refine pure_of (acalls_of Try.func48 rfl Try.call48 (by kernel_rfl) (by show _ ≤ (70 : Nat); simp) ?_)
  obtain ⟨V1, V2, V3, V4, _, Vs⟩ := hV
  obtain ⟨r, hr⟩ : ∃ r, r = AV.int .i64 (chkNet n l) := ⟨_, rfl⟩
  rw [← hr]
  have bad : (n < 2 ∨ 24 < n ∨ 200 < l.length ∨ l.any (fun x => !arcOk n x) = true) → r = .int .i64 30 := fun h => by
    rw [hr, chkNet, if_pos h]
  simp [V1, V2, V3]
  intro b1 hb1
  simp [V1, V2, V3, V4, -lenA]
  by_cases q1 : n < 2
  · simp [q1]
    refine finA_drop ?_
    exact (bad (.inl q1)).symm
  · by_cases q2 : 24 < n
    · simp [q1, q2]
      refine finA_drop ?_
      exact (bad (.inr (.inl q2))).symm
    · by_cases q3 : 200 < l.length
      · have q3I : 200 < (l.length : Int) := by omega
        simp [q1, q2, q3, q3I, V1, V2, V3, V4, -lenA]
        refine finA_drop ?_
        exact (bad (.inr (.inr (.inl q3)))).symm
      · have q3I : ¬ 200 < (l.length : Int) := by omega
        simp [q1, q2, q3, q3I, V1, V2, V3, V4, -lenA]
        refine awp_loop_g (γ := Nat) (fun i t h => (i ≤ l.length) ∧ (∀ x ∈ l.take i, arcOk n x = true) ∧ t 1 = .ptr b1 0 ∧ t 3 = .int .i64 i ∧ h = AHeap.empty.upd b1 (.cells [.int .i64 n, V])) (fun i => l.length - i) (0) (turnA_self (by simp)) ?_
        rintro i t h ⟨hi, hc, h1, h3, rfl⟩
        by_cases hlt : i < l.length
        · have hltI : (i : Int) < (l.length : Int) := by omega
          have hwi : IntKind.i64.wrap ((i : Int) + 1) = (i : Int) + 1 := wrap_i64 (by omega) (by omega)
          have hVs := Vs (fun e => by rw [e] at hlt; simp at hlt)
          have hat := arcC_at hlt
          obtain ⟨x, hx⟩ : ∃ x, x = l[i] := ⟨_, rfl⟩
          rw [← hx] at hat
          have hxm : x ∈ l := hx ▸ List.getElem_mem hlt
          have hi3 : 3 ≤ l.length * 3 - i * 3 := by omega
          have hi4 : min 3 (l.length * 3 - i * 3) = 3 := by omega
          have bad' : ¬ (0 ≤ x.a ∧ 0 ≤ x.b ∧ x.a < n ∧ x.b < n ∧ x.a ≠ x.b ∧ 0 ≤ x.c ∧ x.c ≤ 1000000000) → r = .int .i64 30 := fun h => bad (.inr (.inr (.inr (List.any_eq_true.2 ⟨x, hxm, by
            cases e : arcOk n x with
            | false => rfl
            | true => exact absurd (arcOk_iff.1 e) h⟩))))
          have hn30 : ¬ (30 : Int) = 0 := by omega
          simp [h1, h3, hlt, hltI, V4, -lenA]
          simp [h1, h3, hVs, hlt, hltI, hat, hi3, hi4]
          intro b4 hb4
          simp at hb4
          simp [h1, h3, hb4, splice]
          by_cases p1 : x.a < 0
          · simp [h1, h3, hb4, p1]
            refine finA_drop ?_
            exact (bad' (by omega)).symm
          · by_cases p2 : n ≤ x.a
            · simp [h1, h3, hb4, p1, p2]
              refine finA_drop ?_
              exact (bad' (by omega)).symm
            · by_cases p3 : x.b < 0
              · simp [h1, h3, hb4, p1, p2, p3]
                refine finA_drop ?_
                exact (bad' (by omega)).symm
              · by_cases p4 : n ≤ x.b
                · simp [h1, h3, hb4, p1, p2, p3, p4]
                  refine finA_drop ?_
                  exact (bad' (by omega)).symm
                · by_cases p5 : x.a = x.b
                  · simp [h1, h3, hb4, p1, p2, p3, p4, p5]
                    refine finA_drop ?_
                    exact (bad' (by omega)).symm
                  · by_cases p6 : x.c < 0
                    · simp [h1, h3, hb4, p1, p2, p3, p4, p5, p6]
                      refine finA_drop ?_
                      exact (bad' (by omega)).symm
                    · by_cases p7 : 1000000000 < x.c
                      · simp [h1, h3, hb4, p1, p2, p3, p4, p5, p6, p7]
                        refine finA_drop ?_
                        exact (bad' (by omega)).symm
                      · simp [h1, h3, hb4, p1, p2, p3, p4, p5, p6, p7]
                        have hc' : ∀ y ∈ l.take (i + 1), arcOk n y = true := fun y hy => by
                          rw [List.take_succ_eq_append_getElem hlt] at hy
                          rcases List.mem_append.1 hy with h | h
                          · exact hc y h
                          · simp at h; rw [h, ← hx]; exact arcOk_iff.2 (by omega)
                        refine turnA_to (AHeap.empty.upd b1 (.cells [.int .i64 n, .sl l.length (arcC l)])) ?_ ⟨i + 1, by omega, by omega, hc', by simp [h1, h3, hwi, hVs]⟩
                        exact Drop.new (Drop.refl _) (by simp [hb4])
        · obtain rfl : i = l.length := by omega
          simp [h1, h3, V4, -lenA]
          refine finA_drop ?_
          rw [hr, chkNet, if_neg]
          simp only [not_or]
          refine ⟨q1, q2, q3, fun h => ?_⟩
          obtain ⟨y, hy, hy2⟩ := List.any_eq_true.1 h
          rw [List.take_length] at hc
          rw [hc y hy] at hy2; cases hy2
end Go.Proofs

end

section
/-
  Flow: a board as a source; the least cut of two places.
-/
namespace Go.Proofs
open Go Go.AH
set_option maxRecDepth 10000
set_option maxHeartbeats 4000000

theorem w_boardSize (n : Int) (V : AV) (h1 : V.one = true) (h2 : V.fit = true) (h3 : V.cells = [V]) : Pure Try.prog 123 [.agg [.int .i64 n, V]] (.int .i64 n) := by
  refine pure_of (acalls_of Try.func123 rfl Try.call123 (by kernel_rfl) (by show _ ≤ (5 : Nat); simp) ?_)
  simp [h1, h2, h3]
  intro b1 hb1
  simp [h1, h2, h3]
  exact finA_drop rfl
def linkFn (n : Int) (V : AV) : AV := .fn (.func 124) [] [.fptr [.int .i64 n, V]]
theorem w_boardArcs (n : Int) (l : List RArc) : Pure Try.prog 122 [.agg [.int .i64 n, arcsL l]] (linkFn n (arcsL l)) := by
  refine pure_of (acalls_of Try.func122 rfl Try.call122 (by kernel_rfl) (by show _ ≤ (4 : Nat); simp) ?_)
  have hfr : ∀ k h h', frzF k h h' (arcsL l) = arcsL l := fun k h h' => frz_frozen k _ (by simp)
  simp
  intro b1 hb1
  simp
  refine finA_all 2 ?_
  simp [linkFn, frzF, hfr, AHeap.upd, AHeap.empty]
theorem it_links (n : Int) (l : List RArc) (hl : l.length ≤ 1000000) : IterH Try.prog (fun _ => True) (linkFn n (arcsL l)) (srcE fun x => x.c) l true := by
  intro γ I step go y g0 h0 hS hgo hI0 _ hy
  unfold linkFn
  rw [ACallV_func]
  refine acalls_of Try.func124 rfl Try.call124 (by kernel_rfl) (by show _ ≤ (25 : Nat); simp) ?_
  simp [-lenA, lenA_linksL]
  refine awp_loop_g (γ := Nat × γ) (fun q t h => (q.1 ≤ l.length) ∧ (q.2 = (l.take q.1).foldl step g0) ∧ (go q.2 = true) ∧ (I q.2 h) ∧ (runIt step go g0 l = runIt step go q.2 (l.drop q.1)) ∧ t 0 = y ∧ t 6 = arcsL l ∧ t 7 = .int .i64 l.length ∧ t 8 = .int .i64 q.1) (fun q => l.length - q.1) ((0, g0)) (turnA_self ⟨Nat.zero_le _, rfl, hgo, hI0, rfl, by simp⟩) ?_
  rintro q t h ⟨hi, hg, hq, hI, hrun, h0, h6, h7, h8⟩
  obtain ⟨i, g⟩ := q
  simp only at h0 h6 h7 h8 hi hg hq hI hrun
  by_cases hlt : i < l.length
  · have hw : IntKind.i64.wrap ((i : Int) + 1) = (i : Int) + 1 := wrap_i64 (by omega) (by omega)
    have hne : ¬ l = [] := fun e => by rw [e] at hlt; simp at hlt
    have hV : arcsL l = .sl l.length (arcC l) := by unfold arcsL arcsA; rw [if_neg hne]
    have hat := arcC_at hlt
    have hc := hy i g l[i] h (List.getElem?_eq_getElem hlt) hg hq hI
    have hdr : l.drop i = l[i] :: l.drop (i + 1) := List.drop_eq_getElem_cons hlt
    have hts : (l.take (i + 1)).foldl step g0 = step g l[i] := by rw [List.take_succ_eq_append_getElem hlt, List.foldl_append, ← hg]; rfl
    rw [hdr] at hrun
    obtain ⟨x, hx⟩ : ∃ x, x = l[i] := ⟨_, rfl⟩
    rw [← hx] at hat hc hrun hts
    unfold srcE arcV at hc
    have hi3 : 3 ≤ l.length * 3 - i * 3 := by omega
    have hi4 : min 3 (l.length * 3 - i * 3) = 3 := by omega
    simp [h0, h6, h7, h8, hlt, hV, hat, hi3, hi4]
    intro b4 hb4
    simp [h0, h6, h7, h8, splice]
    refine ACallV.mono (ACallV.keep (c := .cells [.int .i64 x.a, .int .i64 x.b, .int .i64 x.c]) hc hb4) ?_
    rintro r h2 ⟨h1, rfl, hn1, rfl, hI1⟩
    cases hgs : go (step g x) with
    | true =>
      simp [h0, h6, h7, h8]
      refine turnA_to h1 (Drop.new (Drop.refl _) hn1) ?_
      exact ⟨i + 1, by omega, by omega, by rw [hts]; exact hgs, by rw [hts]; exact hI1, by rw [hts, hrun]; simp only [runIt, hgs, if_true], by simp [h0, h6, h7, h8, hw, hV]⟩
    | false =>
      simp [h0, h6, h7, h8]
      refine finA_same h1 (Drop.new (Drop.refl _) hn1) ?_
      rw [hrun]
      simp only [runIt, hgs]
      exact hI1
  · obtain rfl : i = l.length := by omega
    rw [List.drop_length] at hrun
    simp [h0, h6, h7, h8]
    refine finA_self ?_
    rw [hrun]
    exact hI
def boardSrc (P : Nat) (l : List RArc) (hl : l.length ≤ 1000000) (H : AHeap) : Src 82 (.agg [.int .i64 P, arcsL l]) P l (fun x => x.c) H where
  fs := 123
  ms := by kernel_rfl
  size := fun H' _ => w_boardSize P _ (by simp) (by simp) (by simp) H'
  fa := 122
  ma := by kernel_rfl
  it := 124
  caps := [.fptr [.int .i64 P, arcsL l]]
  arcs := fun H' _ => w_boardArcs P l H'
  S := fun _ => True
  hS := fun _ _ => trivial
  hSu := fun _ _ _ _ _ => trivial
  iter := it_links P l hl
theorem chk_okB {n : Int} {l : List RArc} (h : chkNet n l = 0) : ∃ P : Nat, n = P ∧ ArcsOk P l fun x => x.c := by
  obtain ⟨P, rfl, O⟩ := chk_ok h
  exact ⟨P, rfl, O.P2, O.P24, O.len, O.ok, fun x hx => by have := arcOk_iff.1 (O.ok x hx); omega⟩
def leastQ (n : Int) (l : List RArc) (s t : Int) (r : AV) : Prop :=
  if chkNet n l ≠ 0 then r = .tup [.int .i64 0, .int .i64 (chkNet n l)] else if endsB n s t = false then r = .tup [.int .i64 0, .int .i64 1]
  else ∃ (P s' t' : Nat) (v : Int) (left lv : Nat → Int), n = P ∧ s = s' ∧ t = t' ∧ s' < P ∧ t' < P ∧ s' ≠ t' ∧ ArcsOk P l (fun x => x.c) ∧ 0 ≤ v ∧ Fl (srOf P l fun x => x.c) s' t' left v ∧ Lv (srOf P l fun x => x.c) s' left lv ∧ lv t' < 0 ∧ r = .tup [.int .i64 v, .int .i64 0]
theorem w_Least (n : Int) (l : List RArc) (hl : l.length ≤ 1000000) (s t : Int) : PureE Try.prog 44 [netV n l, .int .i64 s, .int .i64 t] (leastQ n l s t) := by
  obtain ⟨Q, hQ⟩ : ∃ Q, Q = leastQ n l s t := ⟨_, rfl⟩
  rw [← hQ]
  refine pureE_of (acalls_of Try.func44 rfl Try.call44 (by kernel_rfl) (by show _ ≤ (26 : Nat); simp) ?_)
  have ck := w_CheckBoard n l hl
  have ce := w_areEnds n s t
  obtain ⟨V, hV⟩ : ∃ V, V = arcsL l := ⟨_, rfl⟩
  have hV1 : V.one = true := by rw [hV]; simp
  have hV2 : V.fit = true := by rw [hV]; simp
  have hV3 : V.cells = [V] := by rw [hV]; simp
  unfold netV at ck ⊢
  rw [← hV] at ck ⊢
  simp [hV1, hV2, hV3]
  intro b3 hb3
  simp [hV1, hV2, hV3]
  refine ck.use ?_
  by_cases h0 : chkNet n l = 0
  · rw [h0]
    simp
    refine ce.use ?_
    cases he : endsB n s t with
    | false =>
      simp
      refine finA_drop ?_
      rw [hQ]; unfold leastQ
      rw [if_neg (by simp [h0]), if_pos he]
    | true =>
      simp
      obtain ⟨P, rfl, O⟩ := chk_okB h0
      have he' := he
      simp only [endsB, Bool.and_eq_true, decide_eq_true_eq] at he'
      obtain ⟨⟨⟨⟨e1, e2⟩, e3⟩, e4⟩, e5⟩ := he'
      obtain ⟨s', hs'⟩ : ∃ s' : Nat, s = s' := ⟨s.toNat, by omega⟩
      obtain ⟨t', ht'⟩ : ∃ t' : Nat, t = t' := ⟨t.toNat, by omega⟩
      subst hs' ht'
      have hs2 : s' < P := by omega
      have ht2 : t' < P := by omega
      have hst : s' ≠ t' := fun e => e5 (by rw [e])
      simp [hV1, hV2, hV3]
      rw [hV]
      refine ACalls.mono (w_flow (boardSrc P l hl _) O) ?_
      rintro _ _ ⟨W, hW, rfl, rfl⟩
      simp
      refine ACalls.mono (w_pushed O hW hs2 ht2 hst) ?_
      rintro _ _ ⟨v, left, lv, rfl, rfl, v0, F, L, hc⟩
      simp
      refine finA_drop ?_
      rw [hQ]; unfold leastQ
      rw [if_neg (by simp [h0]), if_neg (by simp [he])]
      exact ⟨P, s', t', v, left, lv, rfl, rfl, rfl, hs2, ht2, hst, O, v0, F, L, hc, rfl⟩
  · simp [h0]
    refine finA_drop ?_
    rw [hQ]; unfold leastQ
    rw [if_pos h0]
end Go.Proofs

end

section
/-
  Flow: what is refused.
-/
namespace Go.Proofs
open Go Go.AH
set_option maxRecDepth 10000
set_option maxHeartbeats 4000000

def errOf (n : Int) (l : List RArc) (s t : Int) : Int := if chkNet n l ≠ 0 then chkNet n l else if endsB n s t = true then 0 else 1
section
variable (n : Int) (l : List RArc) (hl : l.length ≤ 1000000) (s t : Int)
include hl
theorem w_ApartE (he : errOf n l s t ≠ 0) : Pure Try.prog 27 [netV n l, .int .i64 s, .int .i64 t] (.tup [.nilsl, .nilsl, .int .i64 (errOf n l s t)]) := by
  obtain ⟨r, hr⟩ : ∃ r, r = errOf n l s t := ⟨_, rfl⟩
  rw [← hr] at he ⊢
  unfold errOf at hr
  refine pure_of (acalls_of Try.func27 rfl Try.call27 (by kernel_rfl) (by show _ ≤ (120 : Nat); simp) ?_)
  have ck := w_CheckN n l hl
  have ce := w_areEnds n s t
  obtain ⟨V, hV⟩ : ∃ V, V = arcsL l := ⟨_, rfl⟩
  have hV1 : V.one = true := by rw [hV]; simp
  have hV2 : V.fit = true := by rw [hV]; simp
  have hV3 : V.cells = [V] := by rw [hV]; simp
  unfold netV at ck ⊢
  rw [← hV] at ck ⊢
  simp [hV1, hV2, hV3]
  intro b3 hb3
  simp [hV1, hV2, hV3]
  refine ck.use ?_
  by_cases h0 : chkNet n l = 0
  · rw [if_neg (by simp [h0])] at hr
    rw [h0]
    simp
    refine ce.use ?_
    cases hE : endsB n s t with
    | true => rw [hE] at hr; exact absurd hr he
    | false =>
      rw [hE] at hr
      simp at hr
      simp
      refine finA_drop ?_
      rw [hr]
  · rw [if_pos h0] at hr
    simp [h0]
    refine finA_drop ?_
    rw [hr]
theorem w_AreApartE (he : errOf n l s t ≠ 0) : Pure Try.prog 30 [netV n l, .int .i64 s, .int .i64 t, .nilsl] (.bool false) := by
  unfold errOf at he
  refine pure_of (acalls_of Try.func30 rfl Try.call30 (by kernel_rfl) (by show _ ≤ (98 : Nat); simp) ?_)
  have ck := w_CheckN n l hl
  have ce := w_areEnds n s t
  obtain ⟨V, hV⟩ : ∃ V, V = arcsL l := ⟨_, rfl⟩
  have hV1 : V.one = true := by rw [hV]; simp
  have hV2 : V.fit = true := by rw [hV]; simp
  have hV3 : V.cells = [V] := by rw [hV]; simp
  unfold netV at ck ⊢
  rw [← hV] at ck ⊢
  simp [hV1, hV2, hV3]
  intro b3 hb3
  simp [hV1, hV2, hV3]
  refine ck.use ?_
  by_cases h0 : chkNet n l = 0
  · rw [if_neg (by simp [h0])] at he
    rw [h0]
    simp
    refine ce.use ?_
    cases hE : endsB n s t with
    | true => rw [hE] at he; exact absurd rfl he
    | false =>
      simp
      exact finA_drop rfl
  · simp [h0]
    exact finA_drop rfl
theorem w_IsFlowE (he : errOf n l s t ≠ 0) (L : AV) (H : AHeap) : ACalls Try.prog 23 [netV n l, .int .i64 s, .int .i64 t, L] H fun r h' => r = .tup [.int .i64 0, .bool false] ∧ h' = H := by
  unfold errOf at he
  refine acalls_of Try.func23 rfl Try.call23 (by kernel_rfl) (by show _ ≤ (98 : Nat); simp) ?_
  have ck := w_CheckN n l hl
  have ce := w_areEnds n s t
  obtain ⟨V, hV⟩ : ∃ V, V = arcsL l := ⟨_, rfl⟩
  have hV1 : V.one = true := by rw [hV]; simp
  have hV2 : V.fit = true := by rw [hV]; simp
  have hV3 : V.cells = [V] := by rw [hV]; simp
  unfold netV at ck ⊢
  rw [← hV] at ck ⊢
  simp [hV1, hV2, hV3]
  intro b3 hb3
  simp [hV1, hV2, hV3]
  refine ck.use ?_
  by_cases h0 : chkNet n l = 0
  · rw [if_neg (by simp [h0])] at he
    rw [h0]
    simp [hV1, hV2, hV3]
    refine ce.use ?_
    cases hE : endsB n s t with
    | true => rw [hE] at he; exact absurd rfl he
    | false =>
      simp
      exact finA_same H (Drop.new (Drop.refl _) hb3) ⟨rfl, rfl⟩
  · simp [h0]
    exact finA_same H (Drop.new (Drop.refl _) hb3) ⟨rfl, rfl⟩
end
section
variable (n : Int) (l : List RArc) (hl : l.length ≤ 1000000) (h0 : chkNet n l ≠ 0)
include hl h0
theorem w_TreeE : Pure Try.prog 42 [netV n l] (.tup [.nilsl, .int .i64 (chkNet n l)]) := by
  refine pure_of (acalls_of Try.func42 rfl Try.call42 (by kernel_rfl) (by show _ ≤ (12 : Nat); simp) ?_)
  have ck := w_CheckBoard n l hl
  obtain ⟨V, hV⟩ : ∃ V, V = arcsL l := ⟨_, rfl⟩
  have hV1 : V.one = true := by rw [hV]; simp
  have hV2 : V.fit = true := by rw [hV]; simp
  have hV3 : V.cells = [V] := by rw [hV]; simp
  unfold netV at ck ⊢
  rw [← hV] at ck ⊢
  simp [hV1, hV2, hV3]
  intro b3 hb3
  simp [hV1, hV2, hV3]
  refine ck.use ?_
  simp [h0]
  exact finA_drop rfl
theorem w_WeakestE : Pure Try.prog 43 [netV n l] (.tup [.int .i64 0, .nilsl, .int .i64 (chkNet n l)]) := by
  refine pure_of (acalls_of Try.func43 rfl Try.call43 (by kernel_rfl) (by show _ ≤ (59 : Nat); simp) ?_)
  have ck := w_CheckBoard n l hl
  obtain ⟨V, hV⟩ : ∃ V, V = arcsL l := ⟨_, rfl⟩
  have hV1 : V.one = true := by rw [hV]; simp
  have hV2 : V.fit = true := by rw [hV]; simp
  have hV3 : V.cells = [V] := by rw [hV]; simp
  unfold netV at ck ⊢
  rw [← hV] at ck ⊢
  simp [hV1, hV2, hV3]
  intro b3 hb3
  simp [hV1, hV2, hV3]
  refine ck.use ?_
  simp [h0]
  exact finA_drop rfl
theorem w_IsTreeE (L : AV) (H : AHeap) : ACalls Try.prog 34 [netV n l, L] H fun r h' => r = .bool false ∧ h' = H := by
  refine acalls_of Try.func34 rfl Try.call34 (by kernel_rfl) (by show _ ≤ (49 : Nat); simp) ?_
  have ck := w_CheckBoard n l hl
  obtain ⟨V, hV⟩ : ∃ V, V = arcsL l := ⟨_, rfl⟩
  have hV1 : V.one = true := by rw [hV]; simp
  have hV2 : V.fit = true := by rw [hV]; simp
  have hV3 : V.cells = [V] := by rw [hV]; simp
  unfold netV at ck ⊢
  rw [← hV] at ck ⊢
  simp [hV1, hV2, hV3]
  intro b3 hb3
  simp [hV1, hV2, hV3]
  refine ck.use ?_
  simp [h0]
  exact finA_same H (Drop.new (Drop.refl _) hb3) ⟨rfl, rfl⟩
end
end Go.Proofs

end

section
/-
  Flow: networks and boards, as they come in, handed on.
-/
namespace Go.Proofs
open Go Go.AH
set_option maxRecDepth 10000
set_option maxHeartbeats 4000000

theorem condA_cut {P : Program} {ro : Option Nat} {N : Nat} {v : AV} {x y : Code} {K : AF → AHeap → Prop} {Q : Exit → AF → AHeap → Prop} {t : AF} {h : AHeap} (I : AF → AHeap → Prop) (hx : condA v (awp P ro N x (thenA I Q) t h) (awp P ro N y (thenA I Q) t h)) (hy : ∀ t h, I t h → K t h) :
    condA v (awp P ro N x (thenA K Q) t h) (awp P ro N y (thenA K Q) t h) := by
  have m : ∀ c t h, awp P ro N c (thenA I Q) t h → awp P ro N c (thenA K Q) t h := fun c t h => awp_mono c _ _ t h fun e t h q => by cases e <;> first | exact q | exact hy _ _ q
  unfold condA at hx ⊢
  split at hx
  · exact ⟨fun b => m _ _ _ (hx.1 b), fun b => m _ _ _ (hx.2 b)⟩
  · exact hx.elim
theorem chk_30 {n : Int} {l : List RArc} (h : chkNet n l ≠ 0) : chkNet n l = 30 := by
  unfold chkNet at h ⊢
  split
  · rfl
  · next q => rw [if_neg q] at h; exact absurd rfl h
theorem mostE {n : Int} {l : List RArc} {s t : Int} {r : AV} (he : errOf n l s t ≠ 0) (h : mostQ n l s t r) : r = .tup [.int .i64 0, .nilsl, .int .i64 (errOf n l s t)] := by
  unfold mostQ at h
  unfold errOf at he ⊢
  by_cases h0 : chkNet n l ≠ 0
  · rw [if_pos h0] at h ⊢; exact h
  · rw [if_neg h0] at h he ⊢
    by_cases e : endsB n s t = true
    · rw [if_pos e] at he; exact absurd rfl he
    · rw [if_neg e]
      rw [if_pos (by simpa using e)] at h; exact h
theorem cutE {n : Int} {l : List RArc} {s t : Int} {r : AV} (he : errOf n l s t ≠ 0) (h : cutQ n l s t r) : r = .tup [.nilsl, .int .i64 0, .int .i64 (errOf n l s t)] := by
  unfold cutQ at h
  unfold errOf at he ⊢
  by_cases h0 : chkNet n l ≠ 0
  · rw [if_pos h0] at h ⊢; exact h
  · rw [if_neg h0] at h he ⊢
    by_cases e : endsB n s t = true
    · rw [if_pos e] at he; exact absurd rfl he
    · rw [if_neg e]
      rw [if_pos (by simpa using e)] at h; exact h
theorem leastE {n : Int} {l : List RArc} {s t : Int} {r : AV} (h : leastQ n l s t r) : ∃ v, r = .tup [.int .i64 v, .int .i64 (errOf n l s t)] ∧ (errOf n l s t ≠ 0 → v = 0) := by
  unfold leastQ at h
  unfold errOf
  by_cases h0 : chkNet n l ≠ 0
  · rw [if_pos h0] at h ⊢; exact ⟨0, h, fun _ => rfl⟩
  · rw [if_neg h0] at h ⊢
    by_cases e : endsB n s t = true
    · rw [if_pos e]
      rw [if_neg (by simp [e])] at h
      obtain ⟨_, _, _, v, _, _, _, _, _, _, _, _, _, _, _, _, _, rfl⟩ := h
      exact ⟨v, rfl, fun q => absurd rfl q⟩
    · rw [if_neg e]
      rw [if_pos (by simpa using e)] at h; exact ⟨0, h, fun _ => rfl⟩
theorem l_netA (n : Int) (l : List RArc) (hl : l.length ≤ 1000) {V : AV} (hv : ArcsV V l) : Pure Try.prog 14 [.agg [.int .i64 n, V]] (netV n l) := by
  refine pure_of (acalls_of Try.func14 rfl Try.call14 (by kernel_rfl) (by show _ ≤ (28 : Nat); simp) ?_)
  obtain ⟨hV1, hV2, hV3, hlenA, hlenB, hVs0⟩ := hv
  obtain ⟨r, hr⟩ : ∃ r, r = netV n l := ⟨_, rfl⟩
  rw [← hr]
  obtain ⟨N, hN⟩ : ∃ N, N = l.length := ⟨_, rfl⟩
  have hlen : ∀ h : AHeap, lenA Try.prog h 22 V = some (.int .i64 (N : Int)) := fun h => by rw [hN]; exact hlenA h
  simp
  intro b1 hb1
  simp [hV1, hV2, hV3]
  intro b2 hb2
  simp at hb2
  simp [hb2]
  intro b3 hb3
  simp at hb3
  simp [hb2, hb3, splice]
  refine awp_loop_g (γ := At) (fun q t h => (q.i ≤ N) ∧ ((q.o = none ↔ q.i = 0) ∧ ¬ q.o = some b1 ∧ ¬ q.o = some b2 ∧ ¬ q.o = some b3) ∧ t 1 = .ptr b1 0 ∧ t 2 = .ptr b2 0 ∧ t 3 = .ptr b3 0 ∧ t 4 = .int .i64 q.i ∧ h = (((AHeap.empty.upd b1 (.cells [.int .i64 n, V])).upd b2 (.cells [.int .i64 0, .nilsl])).upd b3 (.cells [.int .i64 n, ownV q.o q.i 3])).updO q.o (arcC (l.take q.i))) (fun q => N - q.i) (⟨0, none⟩) (turnA_self (by simp [hb2, hb3])) ?_
  rintro q t hx ⟨hi, ho, h1, h2, h3, h4, ex⟩
  rw [ex]
  clear ex
  obtain ⟨i, o⟩ := q
  simp only at h1 h2 h3 h4 hi ho
  obtain ⟨ho1, ho2, ho3, ho4⟩ := ho
  by_cases hlt : i < N
  · have hwi : IntKind.i64.wrap ((i : Int) + 1) = (i : Int) + 1 := wrap_i64 (by omega) (by omega)
    have hin : i < l.length := by omega
    have hne : ¬ l = [] := fun e => by rw [e] at hin; simp at hin
    have hVs : V = .sl l.length (arcC l) := hVs0 hne
    have hat := arcC_at hin
    have hts : arcC (l.take (i + 1)) = arcC (l.take i) ++ [.int .i64 l[i].a, .int .i64 l[i].b, .int .i64 l[i].c] := by
      rw [List.take_succ_eq_append_getElem hin, arcC_append]; rfl
    obtain ⟨y, hy⟩ : ∃ y, y = l[i] := ⟨_, rfl⟩
    rw [← hy] at hat hts
    have hz : zcells [.int .i64 0, .int .i64 0, .int .i64 0] 1 = [.int .i64 0, .int .i64 0, .int .i64 0] := rfl
    have hi3 : 3 ≤ l.length * 3 - i * 3 := by omega
    have hi4 : min 3 (l.length * 3 - i * 3) = 3 := by omega
    rw [hVs] at hV1 hV2 hV3 hlen ⊢
    simp [h1, h2, h3, h4, hlen, hlt, hb2, hb3, ho2, ho3, ho4, -lenA, hin, hat, hz, splice, hi3, hi4]
    try simp [h1, h2, h3, h4, hin, hlt, hb2, hb3, ho2, ho3, ho4, hat, hz, splice, hi3, hi4]
    intro b6 hb6
    simp [ho2, ho3, ho4] at hb6
    simp [h1, h2, h3, h4, hb6, hb2, hb3, ho2, ho3, ho4]
    refine appendA_updO (by omega) (by omega) (fun e => by rw [ho1.1 e]; rfl) (by simp; omega) (by simp) (by cases o with | none => simp | some b => simp at hb6 ho2 ho3 ho4 ⊢; grind) fun b' hb' => ?_
    simp [hb6, hb2, hb3, ho2, ho3, ho4] at hb'
    simp [h1, h2, h3, h4, hb', hb6, hb2, hb3, ho2, ho3, ho4]
    rw [← hts]
    refine turnA_to ((((AHeap.empty.upd b1 (.cells [.int .i64 n, .sl l.length (arcC l)])).upd b2 (.cells [.int .i64 0, .nilsl])).upd b3 (.cells [.int .i64 n, .osl b' 0 (i + 1) 3])).updO (some b') (arcC (l.take (i + 1)))) ?_ ⟨⟨i + 1, some b'⟩, by simp only; omega, by simp only; omega, by simp [hb'], by simp [h1, h2, h3, h4, hwi]⟩
    simp
    exact Drop.both (Drop.new (Drop.refl _) (by simp [hb6]))
  · have hiN : i = N := by omega
    have hRt : l.take i = l := List.take_of_length_le (by omega)
    simp [h1, h2, h3, h4, hlen, hlt, hb2, hb3, ho2, ho3, ho4, -lenA]
    rw [hRt]
    cases o with
    | none =>
      have hi0 := ho1.1 rfl
      have hle : l = [] := List.eq_nil_of_length_eq_zero (by omega)
      refine finA_drop ?_
      rw [hr, hle]
      rfl
    | some b =>
      have hne : ¬ l = [] := fun e => by
        have := ho1.2
        rw [e] at hN
        simp at hN
        have := this (by omega)
        cases this
      refine finA_all 3 ?_
      rw [frz_agg]
      simp only [List.map_cons, List.map_nil, ownV_some, updO_some]
      rw [frz_osl (by simp)]
      simp [hr, netV, arcsL, arcsA, hne, hiN, hN]
      rw [map_frozen arcC_frozen]
      exact List.take_of_length_le (by simp)
theorem l_boardA (n : Int) (l : List RArc) (hl : l.length ≤ 1000) {V : AV} (hv : LinksV V l) : Pure Try.prog 35 [.agg [.int .i64 n, V]] (netV n l) := by
  refine pure_of (acalls_of Try.func35 rfl Try.call35 (by kernel_rfl) (by show _ ≤ (28 : Nat); simp) ?_)
  obtain ⟨hV1, hV2, hV3, hlenA, hlenB, hVs0⟩ := hv
  obtain ⟨r, hr⟩ : ∃ r, r = netV n l := ⟨_, rfl⟩
  rw [← hr]
  obtain ⟨N, hN⟩ : ∃ N, N = l.length := ⟨_, rfl⟩
  have hlen : ∀ h : AHeap, lenA Try.prog h 70 V = some (.int .i64 (N : Int)) := fun h => by rw [hN]; exact hlenA h
  simp
  intro b1 hb1
  simp [hV1, hV2, hV3]
  intro b2 hb2
  simp at hb2
  simp [hb2]
  intro b3 hb3
  simp at hb3
  simp [hb2, hb3, splice]
  refine awp_loop_g (γ := At) (fun q t h => (q.i ≤ N) ∧ ((q.o = none ↔ q.i = 0) ∧ ¬ q.o = some b1 ∧ ¬ q.o = some b2 ∧ ¬ q.o = some b3) ∧ t 1 = .ptr b1 0 ∧ t 2 = .ptr b2 0 ∧ t 3 = .ptr b3 0 ∧ t 4 = .int .i64 q.i ∧ h = (((AHeap.empty.upd b1 (.cells [.int .i64 n, V])).upd b2 (.cells [.int .i64 0, .nilsl])).upd b3 (.cells [.int .i64 n, ownV q.o q.i 3])).updO q.o (arcC (l.take q.i))) (fun q => N - q.i) (⟨0, none⟩) (turnA_self (by simp [hb2, hb3])) ?_
  rintro q t hx ⟨hi, ho, h1, h2, h3, h4, ex⟩
  rw [ex]
  clear ex
  obtain ⟨i, o⟩ := q
  simp only at h1 h2 h3 h4 hi ho
  obtain ⟨ho1, ho2, ho3, ho4⟩ := ho
  by_cases hlt : i < N
  · have hwi : IntKind.i64.wrap ((i : Int) + 1) = (i : Int) + 1 := wrap_i64 (by omega) (by omega)
    have hin : i < l.length := by omega
    have hne : ¬ l = [] := fun e => by rw [e] at hin; simp at hin
    have hVs : V = .sl l.length (arcC l) := hVs0 hne
    have hat := arcC_at hin
    have hts : arcC (l.take (i + 1)) = arcC (l.take i) ++ [.int .i64 l[i].a, .int .i64 l[i].b, .int .i64 l[i].c] := by
      rw [List.take_succ_eq_append_getElem hin, arcC_append]; rfl
    obtain ⟨y, hy⟩ : ∃ y, y = l[i] := ⟨_, rfl⟩
    rw [← hy] at hat hts
    have hz : zcells [.int .i64 0, .int .i64 0, .int .i64 0] 1 = [.int .i64 0, .int .i64 0, .int .i64 0] := rfl
    have hi3 : 3 ≤ l.length * 3 - i * 3 := by omega
    have hi4 : min 3 (l.length * 3 - i * 3) = 3 := by omega
    rw [hVs] at hV1 hV2 hV3 hlen ⊢
    simp [h1, h2, h3, h4, hlen, hlt, hb2, hb3, ho2, ho3, ho4, -lenA, hin, hat, hz, splice, hi3, hi4]
    try simp [h1, h2, h3, h4, hin, hlt, hb2, hb3, ho2, ho3, ho4, hat, hz, splice, hi3, hi4]
    intro b6 hb6
    simp [ho2, ho3, ho4] at hb6
    simp [h1, h2, h3, h4, hb6, hb2, hb3, ho2, ho3, ho4]
    refine appendA_updO (by omega) (by omega) (fun e => by rw [ho1.1 e]; rfl) (by simp; omega) (by simp) (by cases o with | none => simp | some b => simp at hb6 ho2 ho3 ho4 ⊢; grind) fun b' hb' => ?_
    simp [hb6, hb2, hb3, ho2, ho3, ho4] at hb'
    simp [h1, h2, h3, h4, hb', hb6, hb2, hb3, ho2, ho3, ho4]
    rw [← hts]
    refine turnA_to ((((AHeap.empty.upd b1 (.cells [.int .i64 n, .sl l.length (arcC l)])).upd b2 (.cells [.int .i64 0, .nilsl])).upd b3 (.cells [.int .i64 n, .osl b' 0 (i + 1) 3])).updO (some b') (arcC (l.take (i + 1)))) ?_ ⟨⟨i + 1, some b'⟩, by simp only; omega, by simp only; omega, by simp [hb'], by simp [h1, h2, h3, h4, hwi]⟩
    simp
    exact Drop.both (Drop.new (Drop.refl _) (by simp [hb6]))
  · have hiN : i = N := by omega
    have hRt : l.take i = l := List.take_of_length_le (by omega)
    simp [h1, h2, h3, h4, hlen, hlt, hb2, hb3, ho2, ho3, ho4, -lenA]
    rw [hRt]
    cases o with
    | none =>
      have hi0 := ho1.1 rfl
      have hle : l = [] := List.eq_nil_of_length_eq_zero (by omega)
      refine finA_drop ?_
      rw [hr, hle]
      rfl
    | some b =>
      have hne : ¬ l = [] := fun e => by
        have := ho1.2
        rw [e] at hN
        simp at hN
        have := this (by omega)
        cases this
      refine finA_all 3 ?_
      rw [frz_agg]
      simp only [List.map_cons, List.map_nil, ownV_some, updO_some]
      rw [frz_osl (by simp)]
      simp [hr, netV, arcsL, arcsA, hne, hiN, hN]
      rw [map_frozen arcC_frozen]
      exact List.take_of_length_le (by simp)
end Go.Proofs

end
