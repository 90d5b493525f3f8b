/-
  Flow: whether anything is a network.
-/
import Derived.Test.YtpnikgfpcgaboaaFlE
set_option linter.unusedSimpArgs false
set_option linter.unusedVariables false
set_option linter.unusedSectionVars false
namespace Go.Proofs
open Go Go.AH
set_option maxRecDepth 10000
set_option maxHeartbeats 4000000

theorem lenA_arcsL {h : AHeap} (l : List RArc) : lenA Try.prog h 30 (arcsL l) = some (.int .i64 (l.length : Int)) := by
  unfold arcsL
  split
  · next e => subst e; simp
  · simp [arcsA]
def idxArc (l : List RArc) (p : RArc → Bool) : Int := if l.any p then (l.findIdx p : Int) else -1
theorem w_indexArc (l : List RArc) (hl : l.length ≤ 1000000) (f : AV) (p : RArc → Bool) (H : AHeap) (hp : ∀ x ∈ l, ACallV Try.prog f [arcV x] H fun r h' => r = .bool (p x) ∧ h' = H) :
    ACalls Try.prog 83 [arcsL l, f] H fun r h' => r = .int .i64 (idxArc l p) ∧ h' = H := by
  refine acalls_of Try.func83 rfl Try.call83 (by kernel_rfl) (by show _ ≤ (19 : Nat); simp) ?_
  simp [-lenA, lenA_arcsL]
  refine awp_loop_g (γ := Nat) (fun k t h => (k ≤ l.length) ∧ (∀ i (hi : i < l.length), i < k → p l[i] = false) ∧ t 0 = arcsL l ∧ t 1 = f ∧ t 7 = .int .i64 l.length ∧ t 8 = .int .i64 k ∧ h = H) (fun k => l.length - k) (0) (turnA_self (by simp)) ?_
  rintro k t h ⟨hk, hno, h0, h1, h7, h8, rfl⟩
  by_cases hlt : k < l.length
  · have hw : IntKind.i64.wrap ((k : Int) + 1) = (k : Int) + 1 := wrap_i64 (by omega) (by omega)
    have hne : ¬ l = [] := fun e => by rw [e] at hlt; simp at hlt
    have hV : arcsL l = .sl l.length (arcC l) := by unfold arcsL arcsA; rw [if_neg hne]
    have hat := arcC_at hlt
    have hc := hp _ (List.getElem_mem hlt)
    obtain ⟨y, hy⟩ : ∃ y, y = l[k] := ⟨_, rfl⟩
    rw [← hy] at hat hc
    unfold arcV at hc
    have hi3 : 3 ≤ l.length * 3 - k * 3 := by omega
    have hi4 : min 3 (l.length * 3 - k * 3) = 3 := by omega
    simp [h0, h1, h7, h8, hlt, hV, hat, hi3, hi4]
    refine hc.use ?_
    simp
    refine condA_case ?_ ?_
    · intro hpk
      have h1' : l.any p = true := List.any_eq_true.2 ⟨l[k], List.getElem_mem hlt, by rw [← hy]; exact hpk⟩
      have h2 : l.findIdx p = k := by
        rw [List.findIdx_eq hlt]
        exact ⟨by rw [← hy]; exact hpk, fun i hi => hno i (by omega) hi⟩
      simp [h0, h1, h7, h8]
      refine finA_self ⟨?_, rfl⟩
      rw [idxArc, if_pos h1', h2]
    · intro hpk
      simp [h0, h1, h7, h8]
      exact turnA_self ⟨k + 1, by omega, by omega, fun i hi hik => by
        by_cases e : i = k
        · subst e; rw [← hy]; exact hpk
        · exact hno i hi (by omega), by simp [h0, h1, h7, h8, hw, hV]⟩
  · obtain rfl : k = l.length := by omega
    have h1' : l.any p = false := by
      rw [List.any_eq_false]
      intro x hx
      obtain ⟨i, hi, rfl⟩ := List.mem_iff_getElem.1 hx
      simp [hno i hi hi]
    simp [h0, h1, h7, h8]
    refine finA_self ⟨?_, rfl⟩
    rw [idxArc, h1']; rfl
theorem w_containsArc (l : List RArc) (hl : l.length ≤ 1000000) (f : AV) (p : RArc → Bool) (H : AHeap) (hp : ∀ x ∈ l, ACallV Try.prog f [arcV x] H fun r h' => r = .bool (p x) ∧ h' = H) :
    ACalls Try.prog 71 [arcsL l, f] H fun r h' => r = .bool (l.any p) ∧ h' = H := by
  refine acalls_of Try.func71 rfl Try.call71 (by kernel_rfl) (by show _ ≤ (9 : Nat); simp) ?_
  simp
  refine (w_indexArc l hl f p H hp).use ?_
  simp
  refine finA_self ⟨?_, rfl⟩
  by_cases h : l.any p = true
  · rw [idxArc, if_pos h, h]; simp
  · have h' : l.any p = false := by simpa using h
    rw [idxArc, if_neg h, h']; simp
theorem w_Check1 (n : Int) (V : AV) (H : AHeap) (b : Nat) (e : cellsAt H b 0 = some [.int .i64 n, V]) (x : RArc) : ACallV Try.prog (.fn (.func 72) [] [.ptr b 0]) [arcV x] H fun r h' => r = .bool (!arcOk n x) ∧ h' = H := by
  rw [ACallV_func]
  refine acalls_of Try.func72 rfl Try.call72 (by kernel_rfl) (by show _ ≤ (9 : Nat); simp) ?_
  have c := w_isArc n x
  unfold arcV at c ⊢
  simp
  intro b2 hb2
  have n2 := ne_fresh e hb2
  simp [e, n2]
  refine c.use ?_
  simp
  exact finA_same H (Drop.new (Drop.refl _) hb2) ⟨rfl, rfl⟩
def chkNet (n : Int) (l : List RArc) : Int := if n < 2 ∨ 24 < n ∨ 200 < l.length ∨ l.any (fun x => !arcOk n x) = true then 30 else 0
theorem w_CheckN (n : Int) (l : List RArc) (hl : l.length ≤ 1000000) : Pure Try.prog 49 [netV n l] (.int .i64 (chkNet n l)) := by
  refine pure_of (acalls_of Try.func49 rfl Try.call49 (by kernel_rfl) (by show _ ≤ (23 : Nat); simp) ?_)
  obtain ⟨V, hV⟩ : ∃ V, V = arcsL l := ⟨_, rfl⟩
  have hV1 : V.one = true := by rw [hV]; simp
  have hV2 : V.fit = true := by rw [hV]; simp
  have hV3 : V.cells = [V] := by rw [hV]; simp
  have hlen : ∀ h : AHeap, lenA Try.prog h 30 V = some (.int .i64 (l.length : Int)) := fun h => by rw [hV]; exact lenA_arcsL l
  obtain ⟨r, hr⟩ : ∃ r, r = chkNet n l := ⟨_, rfl⟩
  rw [← hr]
  unfold chkNet at hr
  rw [show netV n l = .agg [.int .i64 n, V] from by rw [hV]; rfl]
  simp
  intro b1 hb1
  simp [hV1, hV2, hV3]
  by_cases q1 : n < 2
  · have : r = 30 := by rw [hr, if_pos (.inl q1)]
    simp [q1]
    exact finA_drop (by rw [this])
  · by_cases q2 : 24 < n
    · have : r = 30 := by rw [hr, if_pos (.inr (.inl q2))]
      simp [q1, q2]
      exact finA_drop (by rw [this])
    · by_cases q3 : 200 < l.length
      · have q3I : 200 < (l.length : Int) := by omega
        have : r = 30 := by rw [hr, if_pos (.inr (.inr (.inl q3)))]
        simp [q1, q2, -lenA, hlen, q3I, q3]
        exact finA_drop (by rw [this])
      · have q3I : ¬ 200 < (l.length : Int) := by omega
        have cc := w_containsArc l hl (.fn (.func 72) [] [.ptr b1 0]) (fun x => !arcOk n x) (AHeap.empty.upd b1 (.cells [.int .i64 n, V])) (fun x _ => w_Check1 n V _ b1 (by simp) x)
        rw [← hV] at cc
        simp [q1, q2, -lenA, hlen, q3I, q3]
        refine cc.use ?_
        cases q4 : l.any (fun x => !arcOk n x) with
        | true =>
          have : r = 30 := by rw [hr, if_pos (.inr (.inr (.inr q4)))]
          simp
          exact finA_drop (by rw [this])
        | false =>
          have : r = 0 := by rw [hr, if_neg (by rw [q4]; rintro (h | h | h | h) <;> first | omega | cases h)]
          simp
          exact finA_drop (by rw [this])
end Go.Proofs
