/-
  Ring: certificates of steadiness.
-/
import Derived.Test.YtobdaaoefbgilaaG8
import Derived.Test.YtobdaaoefbgilaaG3
set_option linter.unusedSimpArgs false
set_option linter.unusedVariables false
set_option linter.unusedSectionVars false
namespace Go.Proofs
open Go Go.AH
set_option maxRecDepth 10000
set_option maxHeartbeats 4000000

/-- What a machine takes, plus 1, from tables that are packed into numbers. -/
def tkN (c m : Nat) (T : List Nat) (l : List Nat) (i : Nat) : Nat := T.getD i 0 / 8 ^ ((colF l ((i + m - 1) % m) * c + colF l i) * c + colF l ((i + 1) % m)) % 8
def packT : List Int → Nat
  | [] => 0
  | x :: l => 8 * packT l + (x + 1).toNat
theorem packT_get : ∀ (l : List Int) (k : Nat) (h : k < l.length), (∀ x ∈ l, -1 ≤ x ∧ x < 7) → packT l / 8 ^ k % 8 = (l[k] + 1).toNat
  | [], k, h, _ => absurd h (by simp)
  | x :: l, 0, _, hb => by
    have := hb x (by simp)
    simp only [packT, Nat.pow_zero, Nat.div_one, List.getElem_cons_zero]
    omega
  | x :: l, k + 1, h, hb => by
    have := hb x (by simp)
    have ih := packT_get l k (by simpa using h) (fun y hy => hb y (List.mem_cons_of_mem _ hy))
    simp only [packT, List.getElem_cons_succ]
    rw [← ih, Nat.pow_succ, Nat.mul_comm (8 ^ k) 8, ← Nat.div_div_eq_div_mul]
    congr 2
    omega
def okAtC (c m : Nat) (T : List Nat) (G F B n : Nat) (l : List Nat) (g : Bool) (R : List Nat) : Bool :=
  !R.isEmpty && (g == (R.length == 1)) && R.all fun i =>
    (fun t => G / 2 ^ t % 2 == 1 || (!g && Nat.blt (F / B ^ t % B) (F / B ^ n % B))) (numF c (l.set i (tkN c m T l i - 1)))
def okC (c m : Nat) (T : List Nat) (G F B n : Nat) : Bool := (fun l => okAtC c m T G F B n l (G / 2 ^ n % 2 == 1) ((List.range m).filter fun i => Nat.blt 0 (tkN c m T l i))) (ofF c m n)
/-- All numbers from lo on, 2 to the power of k of them, that are less than S. -/
def allC (p : Nat → Bool) (S : Nat) : Nat → Nat → Bool
  | lo, 0 => if Nat.blt lo S then p lo else true
  | lo, k + 1 => allC p S lo k && allC p S (lo + 2 ^ k) k
theorem allC_ok {p : Nat → Bool} {S : Nat} : ∀ (k lo : Nat), allC p S lo k = true → ∀ n, lo ≤ n → n < lo + 2 ^ k → n < S → p n = true
  | 0, lo, h, n, h1, h2, h3 => by
    have : n = lo := by simp at h2; omega
    subst this
    unfold allC at h
    rwa [if_pos (by rw [Nat.blt_eq]; exact h3)] at h
  | k + 1, lo, h, n, h1, h2, h3 => by
    unfold allC at h
    rw [Bool.and_eq_true] at h
    rw [Nat.pow_succ] at h2
    by_cases q : n < lo + 2 ^ k
    · exact allC_ok k lo h.1 n h1 q h3
    · exact allC_ok k (lo + 2 ^ k) h.2 n (by omega) (by omega) h3
def goodR (r : Rul) : Bool := decide (2 ≤ r.m) && decide (r.m ≤ 6) && decide (2 ≤ r.c) && decide (r.c ≤ 6) && decide (r.c ^ r.m ≤ 20000) && decide (r.next.length = r.m) && r.next.all (goodB r.c)
def steadyC (r : Rul) (T : List Nat) (G F B k : Nat) : Bool :=
  goodR r && (r.next.map packT == T) && Nat.ble (r.c ^ r.m) (2 ^ k) && allC (okC r.c r.m T G F B) (r.c ^ r.m) 0 k
theorem goodR_ok {r : Rul} (h : goodR r = true) : r.ok := by
  simp only [goodR, Bool.and_eq_true, decide_eq_true_eq, List.all_eq_true] at h
  obtain ⟨⟨⟨⟨⟨⟨m2, m6⟩, c2⟩, c6⟩, sz⟩, nl⟩, gd⟩ := h
  have gd : ∀ row ∈ r.next, GoodRow r.c row := fun row hr => goodB_spec (gd row hr)
  refine ⟨m2, m6, c2, c6, sz, nl, fun row hr => (gd row hr).1, fun row hr x hx => ?_, fun row hr x hx => ?_, fun i k => ?_⟩
  · obtain ⟨k, hk, rfl⟩ := List.getElem_of_mem hx; exact ((gd row hr).2 k hk).1
  · obtain ⟨k, hk, rfl⟩ := List.getElem_of_mem hx; exact ((gd row hr).2 k hk).2.1
  · by_cases hi : i < r.next.length
    · rw [show r.next.getD i [] = r.next[i] from by simp [hi]]
      have g := gd _ (List.getElem_mem hi)
      by_cases hk : k < r.next[i].length
      · rw [show r.next[i].getD k (-1) = r.next[i][k] from by simp [hk]]
        exact (g.2 k hk).2.2
      · rw [show r.next[i].getD k (-1) = -1 from by simp [show r.next[i].length ≤ k from by omega]]
        omega
    · rw [show r.next.getD i [] = [] from by simp [show r.next.length ≤ i from by omega]]
      intro e
      have : (([] : List Int).getD k (-1)) = -1 := rfl
      rw [this] at e
      have := Int.natCast_nonneg (k / r.c % r.c)
      rw [← e] at this
      cases this
structure Cert (r : Rul) (f : Nat → Nat) : Prop where
  ok : r.ok
  st : ∀ n, n < r.size → stuckF r n = false
  lv : ∀ n, n < r.size → leaveF r false n = false
  fall : ∀ n, n < r.size → goodF r n = false → ∀ t ∈ moveL r n false, goodF r t = true ∨ f t < f n
theorem steady_cert {r : Rul} {T : List Nat} {G F B k : Nat} (h : steadyC r T G F B k = true) : Cert r fun n => F / B ^ n % B := by
  simp only [steadyC, Bool.and_eq_true, beq_iff_eq, Nat.ble_eq] at h
  obtain ⟨⟨⟨h1, h2⟩, h3⟩, h4⟩ := h
  have hr := goodR_ok h1
  have hall : ∀ n, n < r.size → okC r.c r.m T G F B n = true := fun n hn => allC_ok k 0 h4 n (Nat.zero_le _) (by have : r.size = r.c ^ r.m := rfl; omega) hn
  have htk : ∀ l, Cfg r l → ∀ i, i < r.m → tkN r.c r.m T l i = (takesF r l i + 1).toNat := by
    intro l hl i hi
    have hnl := hr.nl
    obtain ⟨e1, e2, e3⟩ := takes_get hr hl hi
    unfold tkN
    have : T.getD i 0 = packT r.next[i] := by rw [← h2]; simp [e1]
    rw [this]
    have hp := packT_get r.next[i] (atF r l i) e2 (fun x hx => ⟨hr.lo _ (List.getElem_mem e1) x hx, by have := hr.hi _ (List.getElem_mem e1) x hx; have := hr.c6; omega⟩)
    rw [e3, ← hp]
    rfl
  have key : ∀ n, n < r.size → (G / 2 ^ n % 2 = 1 ↔ goodF r n = true) ∧ readyF r (ofF r.c r.m n) ≠ [] ∧ ∀ t ∈ succF r n, t < r.size ∧ (G / 2 ^ t % 2 = 1 ∨ (¬ G / 2 ^ n % 2 = 1 ∧ F / B ^ t % B < F / B ^ n % B)) := by
    intro n hn
    have h := hall n hn
    have hcf := of_cfg hr n
    have hR : ((List.range r.m).filter fun i => Nat.blt 0 (tkN r.c r.m T (ofF r.c r.m n) i)) = readyF r (ofF r.c r.m n) := by
      unfold readyF
      refine List.filter_congr fun i hi => ?_
      have hi := List.mem_range.1 hi
      rw [htk _ hcf i hi]
      have := (takes_bd hr hcf hi).1
      rw [Bool.eq_iff_iff, Nat.blt_eq, decide_eq_true_eq]
      omega
    simp only [okC, hR] at h
    simp only [okAtC, Bool.and_eq_true, Bool.not_eq_true', beq_iff_eq, List.all_eq_true] at h
    obtain ⟨⟨q1, q2⟩, q3⟩ := h
    have hgd : (G / 2 ^ n % 2 = 1 ↔ goodF r n = true) := by
      have : (G / 2 ^ n % 2 = 1) ↔ (readyF r (ofF r.c r.m n)).length = 1 := by
        have := congrArg (· = true) q2
        simpa using this
      rw [this]; unfold goodF; simp
    refine ⟨hgd, fun e => by rw [e] at q1; simp at q1, fun t ht => ⟨succF_lt hr n t ht, ?_⟩⟩
    obtain ⟨i, hi, rfl⟩ := List.mem_map.1 ht
    have hx := q3 i hi
    have him := ready_lt r _ i hi
    have h0 := (readyF_ok0 i hi).2
    rw [htk _ hcf i him] at hx
    have hst : stepF r (ofF r.c r.m n) [i] = (ofF r.c r.m n).set i ((takesF r (ofF r.c r.m n) i + 1).toNat - 1) := by
      simp only [stepF, List.foldl_cons, List.foldl_nil]
      congr 1; omega
    rw [← hst] at hx
    simp only [Bool.or_eq_true, Bool.and_eq_true, Bool.not_eq_true', beq_iff_eq, beq_eq_false_iff_ne, Nat.blt_eq] at hx
    rcases hx with hx | ⟨hx, hy⟩
    · exact .inl hx
    · exact .inr ⟨hx, hy⟩
  refine ⟨hr, fun n hn => ?_, fun n hn => ?_, fun n hn hg t ht => ?_⟩
  · unfold stuckF; simp [(key n hn).2.1]
  · unfold leaveF
    cases hg : goodF r n with
    | false => rfl
    | true =>
      rw [Bool.true_and, List.any_eq_false]
      intro t ht
      rw [succ_move] at ht
      obtain ⟨q1, _, q3⟩ := key n hn
      obtain ⟨htS, q | q⟩ := q3 t ht
      · simp [(key t htS).1.1 q]
      · exact absurd (q1.2 hg) q.1
  · rw [succ_move] at ht
    obtain ⟨_, _, q3⟩ := key n hn
    obtain ⟨htS, q | q⟩ := q3 t ht
    · exact .inl ((key t htS).1.1 q)
    · exact .inr q.2
theorem Cert.code {r : Rul} {f : Nat → Nat} (h : Cert r f) {c a m : Nat} {ρ L : AV} (v : Verd r false c a m ρ L) : c = 0 := v.of_cert h.ok f h.st h.lv h.fall
end Go.Proofs
