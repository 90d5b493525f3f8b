/-
  Pair: barriers, by the reference.
-/
import Derived.Test.YtkdhgablioljnaaPaL
import Derived.Test.YtkdhgablioljnaaPaH
set_option linter.unusedSimpArgs false
set_option linter.unusedVariables false
set_option linter.unusedSectionVars false
namespace Go.Proofs
open Go Go.AH
set_option maxRecDepth 10000
set_option maxHeartbeats 4000000

def oddOf (n : Nat) (es : List Ed) (s : List Int) : Nat := oddsB (fallsB (joinB es) (fun x => s.contains x) n n)
noncomputable def barB (n : Int) (es : List Ed) (s : List Int) (k : Int) : Bool := decide (chkG n es = 0) && okFrom n (-1) s && decide (0 ≤ k) && decide (k ≤ n) && decide (2 * k = n + s.length - oddOf n.toNat es s)
theorem barB_yes {n : Int} {es : List Ed} {s : List Int} {k : Int} (h1 : chkG n es = 0) (h2 : okFrom n (-1) s = true) (h3 : 0 ≤ k) (h4 : k ≤ n) : barB n es s k = decide (2 * k = n + s.length - oddOf n.toNat es s) := by
  unfold barB; rw [h1, h2]; simp [h3, h4]
theorem oddsB_take {ps : List (List Int)} {i : Nat} {p : List Int} (h : ps[i]? = some p) : oddsB (ps.take (i + 1)) = oddsB (ps.take i) + p.length % 2 := by
  obtain ⟨hi, e⟩ := List.getElem?_eq_some_iff.1 h
  rw [List.take_succ_eq_append_getElem hi, oddsB_snoc, e]
theorem partsC_at {ps : List (List Int)} {i : Nat} {p : List Int} (e : ps[i]? = some p) : (partsC ps).drop i = .sl p.length (intC p) :: (partsC ps).drop (i + 1) := drop_of_get (by simp [partsC, e])
theorem w_RIsBarrier (n : Int) (es : List Ed) (he : es.length ≤ 1000000) (s : List Int) (hs : s.length ≤ 1000000) (k : Int) :
    Pure Try.prog 28 [gV n es, intL s, .int .i64 k] (.bool (barB n es s k)) := by
  refine pure_of (acalls_of Try.func28 rfl Try.call28 (by kernel_rfl) (by show _ ≤ (56 : Nat); simp) ?_)
  obtain ⟨r, hr⟩ : ∃ r, r = barB n es s k := ⟨_, rfl⟩
  rw [← hr]
  obtain ⟨V, hV⟩ : ∃ V, V = edL es := ⟨_, rfl⟩
  have hV1 : V.one = true := by rw [hV]; simp
  have hV2 : V.fit = true := by rw [hV]; simp
  have hV3 : V.cells = [V] := by rw [hV]; simp
  have hg : gV n es = .agg [.int .i64 n, V] := by rw [hV]; rfl
  have cc := w_RCheck n es he
  have cr := w_Rising n es s hs
  rw [hg] at cc cr ⊢
  simp [hV1, hV2, hV3]
  intro b3 hb3
  simp
  refine cc.use ?_
  have bad : barB n es s k = false → r = false := fun e => by rw [hr, e]
  rcases chk_cases n es with c0 | c0
  rotate_left
  · have := bad (by unfold barB; rw [c0]; rfl)
    simp [c0]
    exact finA_drop (by rw [this])
  simp [c0]
  refine cr.use ?_
  obtain ⟨Q, hQ⟩ : ∃ Q, okFrom n (-1) s = Q := ⟨_, rfl⟩
  rw [hQ]
  cases Q with
  | false =>
    have := bad (by unfold barB; rw [hQ]; simp)
    simp
    exact finA_drop (by rw [this])
  | true =>
    by_cases k1 : k < 0
    · have := bad (by unfold barB; simp; intro _ _ q; omega)
      simp [k1]
      exact finA_drop (by rw [this])
    by_cases k2 : n < k
    · have := bad (by unfold barB; simp; intro _ _ _ q; omega)
      simp [k1, k2]
      exact finA_drop (by rw [this])
    rw [barB_yes c0 hQ (by omega) (by omega)] at hr
    simp [k1, k2]
    obtain ⟨z1, z2, z3, z4⟩ := chk_zero c0
    obtain ⟨N, rfl⟩ : ∃ N : Nat, n = N := ⟨n.toNat, by omega⟩
    have hN : 1 ≤ N ∧ N ≤ 40 := by omega
    have cf := w_Falls N hN es he s hs
    rw [hg] at cf
    refine cf.use ?_
    unfold oddOf at hr
    rw [Int.toNat_natCast] at hr
    obtain ⟨ps, hps⟩ : ∃ ps, ps = fallsB (joinB es) (fun x => s.contains x) N N := ⟨_, rfl⟩
    have hpl : ps.length ≤ N := by rw [hps]; exact fallsB_len N
    have hpp : ∀ p ∈ ps, p ≠ [] ∧ p.length ≤ N := by rw [hps]; exact fallsB_part N (Nat.le_refl _)
    rw [← hps] at hr ⊢
    have hPs : ∀ i, i < ps.length → partsL ps = .sl ps.length (partsC ps) := fun i h => by unfold partsL; rw [if_neg (fun e => by rw [e] at h; simp at h)]
    have hPl : ∀ h : AHeap, lenA Try.prog h 56 (partsL ps) = some (.int .i64 (ps.length : Int)) := fun h => by
      unfold partsL
      split
      · next e => rw [e]; simp
      · simp
    have hsl : ∀ h : AHeap, lenA Try.prog h 24 (intL s) = some (.int .i64 (s.length : Int)) := fun h => lenA_intL s
    simp
    refine awp_loop_g (γ := Nat) (fun i t h => (i ≤ ps.length) ∧ t 1 = intL s ∧ t 2 = .int .i64 k ∧ t 3 = .ptr b3 0 ∧ t 7 = .int .i64 (oddsB (ps.take i)) ∧ t 8 = partsL ps ∧ t 9 = .int .i64 i ∧ h = AHeap.empty.upd b3 (.cells [.int .i64 N, V])) (fun i => ps.length - i) (0) (turnA_self (by simp [oddsB])) ?_
    rintro i t h ⟨hi, h1, h2, h3, h7, h8, h9, rfl⟩
    have ho := oddsB_le (ps := ps.take i)
    have hol : (ps.take i).length ≤ 40 := by simp; omega
    by_cases hlt : i < ps.length
    · have hwi : IntKind.i64.wrap ((i : Int) + 1) = (i : Int) + 1 := wrap_i64 (by omega) (by omega)
      have hltI : (i : Int) < (ps.length : Int) := by omega
      obtain ⟨p, hp⟩ : ∃ p, ps[i]? = some p := ⟨_, List.getElem?_eq_getElem hlt⟩
      have hpb := (hpp p (List.mem_of_getElem? hp)).2
      have hat := partsC_at hp
      have hot := oddsB_take hp
      have hm : (p.length : Int).tmod 2 = ((p.length % 2 : Nat) : Int) := by rw [Int.tmod_eq_emod_of_nonneg (by omega)]; omega
      have hw2 : IntKind.i64.wrap ((p.length % 2 : Nat) : Int) = ((p.length % 2 : Nat) : Int) := wrap_i64 (by omega) (by omega)
      have hw3 : IntKind.i64.wrap ((oddsB (ps.take i) : Int) + (p.length : Int) % 2) = (oddsB (ps.take (i + 1)) : Int) := by rw [wrap_i64 (by omega) (by omega), hot]; omega
      have hpc : (partsC ps).length = ps.length := by simp [partsC]
      simp [h1, h2, h3, h7, h8, h9, hltI, hPs i hlt, hat, hlt, hm, hpc]
      refine turnA_self ⟨i + 1, by omega, by omega, by simp [h1, h2, h3, h7, h8, h9, hPs i hlt, hwi, hw3]⟩
    · obtain rfl : i = ps.length := by omega
      rw [List.take_length] at ho h7
      have hw1 : IntKind.i64.wrap (2 * k) = 2 * k := wrap_i64 (by omega) (by omega)
      have hw2 : IntKind.i64.wrap ((N : Int) + s.length) = (N : Int) + s.length := wrap_i64 (by omega) (by omega)
      have hw3 : IntKind.i64.wrap ((N : Int) + s.length - oddsB ps) = (N : Int) + s.length - oddsB ps := wrap_i64 (by omega) (by omega)
      simp [h1, h2, h3, h7, h8, h9, hPl, hsl, hw1, hw2, hw3, -lenA]
      exact finA_drop (by rw [hr])
end Go.Proofs
