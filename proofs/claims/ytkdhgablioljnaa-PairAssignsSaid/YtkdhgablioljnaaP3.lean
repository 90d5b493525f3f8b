/-
  Texts: PaK PaL.
-/
import Derived.Test.YtkdhgablioljnaaP2
set_option linter.unusedSimpArgs false
set_option linter.unusedVariables false
set_option linter.unusedSectionVars false
section
/-
  Pair: the parts into which a graph falls without some points.
-/
namespace Go.Proofs
open Go Go.AH
set_option maxRecDepth 10000
set_option maxHeartbeats 4000000

section
variable (J : Int → Int → Bool) (S : Int → Bool) (n : Nat)
def growB (v : Int) : Nat → List Int → List Int
  | 0, l => l
  | b + 1, l => if J v b && !S b && !(growB v b l).contains (b : Int) then growB v b l ++ [(b : Int)] else growB v b l
def stage (a : Int) : Nat → List Int
  | 0 => [a]
  | k + 1 => match (stage a k)[k]? with
    | some v => growB J S v n (stage a k)
    | none => stage a k
def partB (a : Int) : List Int := stage J S n a n
def fallsB : Nat → List (List Int)
  | 0 => []
  | a + 1 => if S a || (fallsB a).flatten.contains (a : Int) then fallsB a else fallsB a ++ [partB J S n a]
inductive Con : Int → Int → Prop
  | refl (a : Int) : Con a a
  | step {a b : Int} (c : Nat) : Con a b → c < n → J b c = true → S c = false → Con a c
end
section
variable {J : Int → Int → Bool} {S : Int → Bool} {n : Nat}
theorem Con.trans {a b c : Int} (h : Con J S n a b) (q : Con J S n b c) : Con J S n a c := by
  induction q with
  | refl => exact h
  | step c _ h1 h2 h3 ih => exact .step c ih h1 h2 h3
theorem Con.ok {a b : Int} (h : Con J S n a b) (ha : ∃ a' : Nat, a = a' ∧ a' < n ∧ S a' = false) : ∃ b' : Nat, b = b' ∧ b' < n ∧ S b' = false := by
  cases h with
  | refl => exact ha
  | step c _ h1 h2 h3 => exact ⟨c, rfl, h1, h3⟩
theorem Con.symm (hJ : ∀ a b, J a b = J b a) {a b : Int} (h : Con J S n a b) (ha : ∃ a' : Nat, a = a' ∧ a' < n ∧ S a' = false) : Con J S n b a := by
  induction h with
  | refl => exact .refl _
  | @step b c h h1 h2 h3 ih =>
    obtain ⟨b', rfl, q1, q2⟩ := h.ok ha
    exact Con.trans (.step b' (.refl _) q1 (by rw [hJ]; exact h2) q2) ih
theorem growB_sub {v : Int} : ∀ (b : Nat) (l : List Int), ∃ r, growB J S v b l = l ++ r
  | 0, l => ⟨[], by simp [growB]⟩
  | b + 1, l => by
    obtain ⟨r, hr⟩ := growB_sub (v := v) b l
    unfold growB
    split
    · exact ⟨r ++ [(b : Int)], by rw [hr, List.append_assoc]⟩
    · exact ⟨r, hr⟩
theorem growB_mem {v : Int} : ∀ (b : Nat) (l : List Int) (x : Int), x ∈ growB J S v b l ↔ x ∈ l ∨ ∃ c : Nat, c < b ∧ x = c ∧ J v c = true ∧ S c = false
  | 0, l, x => by simp [growB]
  | b + 1, l, x => by
    have ih := growB_mem (v := v) b l
    unfold growB
    split
    · next h =>
      simp only [Bool.and_eq_true, Bool.not_eq_true'] at h
      rw [List.mem_append, ih, List.mem_singleton]
      constructor
      · rintro ((q | ⟨c, q1, q2⟩) | q)
        · exact .inl q
        · exact .inr ⟨c, by omega, q2⟩
        · exact .inr ⟨b, by omega, q, h.1.1, h.1.2⟩
      · rintro (q | ⟨c, q1, q2, q3⟩)
        · exact .inl (.inl q)
        · by_cases e : c = b
          · subst e; exact .inr q2
          · exact .inl (.inr ⟨c, by omega, q2, q3⟩)
    · next h =>
      rw [ih]
      constructor
      · rintro (q | ⟨c, q1, q2⟩)
        · exact .inl q
        · exact .inr ⟨c, by omega, q2⟩
      · rintro (q | ⟨c, q1, q2, q3, q4⟩)
        · exact .inl q
        · by_cases e : c = b
          · subst e
            simp only [Bool.and_eq_true, Bool.not_eq_true', q3, q4, true_and] at h
            have : ((c : Int)) ∈ growB J S v c l := by simpa using h
            rw [q2]; exact (ih _).1 this
          · exact .inr ⟨c, by omega, q2, q3, q4⟩
theorem growB_nd {v : Int} : ∀ (b : Nat) (l : List Int), l.Nodup → (growB J S v b l).Nodup
  | 0, l, h => by simpa [growB] using h
  | b + 1, l, h => by
    have ih := growB_nd (v := v) b l h
    unfold growB
    split
    · next q =>
      simp only [Bool.and_eq_true, Bool.not_eq_true'] at q
      rw [List.nodup_append]
      refine ⟨ih, by simp, fun x hx y hy => ?_⟩
      simp only [List.mem_singleton] at hy
      subst hy
      intro e
      subst e
      have : (growB J S v b l).contains (b : Int) = true := by simpa using hx
      rw [this] at q
      exact absurd q.2 (by simp)
    · exact ih
structure StOk (J : Int → Int → Bool) (S : Int → Bool) (n : Nat) (a : Int) (l : List Int) : Prop where
  nd : l.Nodup
  mem : a ∈ l
  con : ∀ x ∈ l, Con J S n a x
theorem StOk.le {a : Nat} (ha : a < n) {l : List Int} (h : StOk J S n a l) (hS : S a = false) : l.length ≤ n := by
  have := nodup_sub_len l ((List.range n).map fun i : Nat => (i : Int)) h.nd fun x hx => by
    obtain ⟨x', rfl, q, _⟩ := (h.con x hx).ok ⟨a, rfl, ha, hS⟩
    exact List.mem_map.2 ⟨x', List.mem_range.2 q, rfl⟩
  simpa using this
theorem stage_some {a : Int} {k : Nat} {v : Int} (h : (stage J S n a k)[k]? = some v) : stage J S n a (k + 1) = growB J S v n (stage J S n a k) := by
  show (match (stage J S n a k)[k]? with | some v => growB J S v n (stage J S n a k) | none => stage J S n a k) = _
  rw [h]
theorem stage_none {a : Int} {k : Nat} (h : (stage J S n a k)[k]? = none) : stage J S n a (k + 1) = stage J S n a k := by
  show (match (stage J S n a k)[k]? with | some v => growB J S v n (stage J S n a k) | none => stage J S n a k) = _
  rw [h]
theorem stage_ok (a : Int) : ∀ k, StOk J S n a (stage J S n a k)
  | 0 => ⟨by simp [stage], by simp [stage], fun x hx => by simp [stage] at hx; subst hx; exact .refl _⟩
  | k + 1 => by
    have ih := stage_ok a k
    unfold stage
    split
    · next v hv =>
      refine ⟨growB_nd _ _ ih.nd, (growB_mem _ _ _).2 (.inl ih.mem), fun x hx => ?_⟩
      rcases (growB_mem _ _ _).1 hx with q | ⟨c, q1, q2, q3, q4⟩
      · exact ih.con x q
      · rw [q2]; exact .step c (ih.con v (List.mem_of_getElem? hv)) q1 q3 q4
    · exact ih
theorem stage_closed (a : Int) : ∀ (k i : Nat) (v : Int), i < k → (stage J S n a k)[i]? = some v → ∀ c : Nat, c < n → J v c = true → S c = false → (c : Int) ∈ stage J S n a k
  | 0, i, v, h, _ => absurd h (by omega)
  | k + 1, i, v, h, hv => by
    intro c hc h1 h2
    have ih := stage_closed a k
    cases hw : (stage J S n a k)[k]? with
    | some w =>
      rw [stage_some hw] at hv ⊢
      obtain ⟨r, hr⟩ := growB_sub (J := J) (S := S) (v := w) n (stage J S n a k)
      have hk : k < (stage J S n a k).length := by
        rcases Nat.lt_or_ge k (stage J S n a k).length with q | q
        · exact q
        · rw [List.getElem?_eq_none q] at hw; cases hw
      rw [hr, List.getElem?_append_left (by omega)] at hv
      rw [growB_mem]
      by_cases e : i = k
      · subst e
        rw [hw] at hv
        cases hv
        exact .inr ⟨c, hc, rfl, h1, h2⟩
      · exact .inl (ih i v (by omega) hv c hc h1 h2)
    | none =>
      rw [stage_none hw] at hv ⊢
      by_cases e : i = k
      · subst e; rw [hw] at hv; cases hv
      · exact ih i v (by omega) hv c hc h1 h2
theorem partB_mem {a : Nat} (ha : a < n) (hS : S a = false) (x : Int) : x ∈ partB J S n a ↔ Con J S n a x := by
  have ok := stage_ok (J := J) (S := S) (n := n) (a : Int) n
  constructor
  · exact ok.con x
  · intro h
    induction h with
    | refl => exact ok.mem
    | step c h h1 h2 h3 ih =>
      obtain ⟨i, hi, e⟩ := List.getElem_of_mem ih
      have hl := ok.le ha hS
      unfold partB at hi
      exact stage_closed (a : Int) n i _ (by omega) (by rw [List.getElem?_eq_getElem hi]; exact congrArg some e) c h1 h2 h3
theorem stage_full (a : Int) {k : Nat} (h : (stage J S n a k).length ≤ k) : ∀ j, stage J S n a (k + j) = stage J S n a k
  | 0 => rfl
  | j + 1 => by
    have ih := stage_full a h j
    show (match (stage J S n a (k + j))[k + j]? with | some v => growB J S v n (stage J S n a (k + j)) | none => stage J S n a (k + j)) = _
    rw [ih, List.getElem?_eq_none (by omega)]
theorem partB_of {a k : Nat} (hk : k ≤ n) (h : (stage J S n a k).length ≤ k) : stage J S n a k = partB J S n a := by
  have := stage_full (J := J) (S := S) (n := n) (a : Int) h (n - k)
  rw [show k + (n - k) = n from by omega] at this
  exact this.symm
theorem fallsB_mem : ∀ k, k ≤ n → ∀ x, x ∈ (fallsB J S n k).flatten ↔ ∃ a : Nat, a < k ∧ S a = false ∧ Con J S n a x
  | 0, _, x => by simp [fallsB]
  | k + 1, hk, x => by
    have ih := fallsB_mem k (by omega)
    unfold fallsB
    split
    · next h =>
      rw [ih]
      constructor
      · rintro ⟨a, q1, q2⟩; exact ⟨a, by omega, q2⟩
      · rintro ⟨a, q1, q2, q3⟩
        by_cases e : a = k
        · subst e
          rw [q2, Bool.false_or] at h
          have h : ((a : Int)) ∈ (fallsB J S n a).flatten := by simpa using h
          obtain ⟨a', p1, p2, p3⟩ := (ih _).1 h
          exact ⟨a', p1, p2, p3.trans q3⟩
        · exact ⟨a, by omega, q2, q3⟩
    · next h =>
      rw [List.flatten_append, List.mem_append, ih]
      have hSk : S k = false := by
        cases e : S k with
        | false => rfl
        | true => rw [e] at h; simp at h
      simp only [List.flatten_cons, List.flatten_nil, List.append_nil]
      rw [partB_mem (by omega) hSk]
      constructor
      · rintro (⟨a, q1, q2⟩ | q)
        · exact ⟨a, by omega, q2⟩
        · exact ⟨k, by omega, hSk, q⟩
      · rintro ⟨a, q1, q2, q3⟩
        by_cases e : a = k
        · subst e; exact .inr q3
        · exact .inl ⟨a, by omega, q2, q3⟩
/-- The lengths of the parts that are odd. -/
def oddsB (ps : List (List Int)) : Nat := (ps.map fun p => p.length % 2).sum
theorem oddsB_snoc {ps : List (List Int)} {p : List Int} : oddsB (ps ++ [p]) = oddsB ps + p.length % 2 := by simp [oddsB]
theorem oddsB_le {ps : List (List Int)} : oddsB ps ≤ ps.length := by
  induction ps with
  | nil => simp [oddsB]
  | cons p r ih =>
    simp only [oddsB, List.map_cons, List.sum_cons, List.length_cons] at ih ⊢
    omega
theorem fallsB_len : ∀ k, (fallsB J S n k).length ≤ k
  | 0 => by simp [fallsB]
  | k + 1 => by
    have := fallsB_len k
    unfold fallsB
    split
    · omega
    · simp; omega
theorem fallsB_part : ∀ k, k ≤ n → ∀ p ∈ fallsB J S n k, p ≠ [] ∧ p.length ≤ n
  | 0, _, p, h => by simp [fallsB] at h
  | k + 1, hk, p, h => by
    have ih := fallsB_part k (by omega)
    unfold fallsB at h
    split at h
    · exact ih p h
    · next hh =>
      rcases List.mem_append.1 h with q | q
      · exact ih p q
      · simp only [List.mem_singleton] at q
        subst q
        have hSk : S k = false := by
          cases e : S k with
          | false => rfl
          | true => rw [e] at hh; simp at hh
        have ok := stage_ok (J := J) (S := S) (n := n) (k : Int) n
        exact ⟨fun e => (List.ne_nil_of_mem ok.mem) e, ok.le (by omega) hSk⟩
/-- Any list that has just a part's points, each once, has as many. -/
theorem partB_len {a : Nat} (ha : a < n) (hS : S a = false) {q : List Int} (hq : q.Nodup) (hm : ∀ x, x ∈ q ↔ Con J S n a x) : q.length = (partB J S n a).length := by
  have ok := stage_ok (J := J) (S := S) (n := n) (a : Int) n
  have h1 := nodup_sub_len q (partB J S n a) hq fun x hx => (partB_mem ha hS x).2 ((hm x).1 hx)
  have h2 := nodup_sub_len (partB J S n a) q ok.nd fun x hx => (hm x).2 ((partB_mem ha hS x).1 hx)
  omega
end
end Go.Proofs

end

section
/-
  Pair: the parts, by the reference.
-/
namespace Go.Proofs
open Go Go.AH
set_option maxRecDepth 10000
set_option maxHeartbeats 4000000

theorem l_HasO (l : List Int) (bl : Nat) (y : Int) (H : AHeap) (hl : l.length ≤ 1000000) (hb : H bl = some (.cells (intC l))) (hne : l ≠ []) :
    ACalls Try.prog 29 [.osl bl 0 l.length 1, .int .i64 y] H fun r h' => r = .bool (l.contains y) ∧ h' = H := by
  refine Pure.lend (k := 2) (r := .bool (l.contains y)) rfl ?_ ⟨rfl, rfl⟩
  have e : ([.osl bl 0 l.length 1, .int .i64 y] : List AV).map (frzF 2 H AHeap.empty) = [intL l, .int .i64 y] := by
    simp only [List.map_cons, List.map_nil, frz_int]
    congr 1
    rw [frz_osl (by simp), cellsAt_eq hb]
    simp [intL, hne]
    rw [map_frozen intC_frozen]
    exact List.take_of_length_le (by simp)
  rw [e]
  exact w_Has l hl y
theorem l_HasN (l : List Int) (o : Option Nat) (y : Int) (H : AHeap) (hl : l.length ≤ 1000000) (hb : ∀ b, o = some b → H b = some (.cells (intC l))) (hne : o = none ↔ l = []) :
    ACalls Try.prog 29 [ownV o l.length 1, .int .i64 y] H fun r h' => r = .bool (l.contains y) ∧ h' = H := by
  cases o with
  | some b => exact l_HasO l b y H hl (hb b rfl) (fun e => nomatch hne.2 e)
  | none =>
    have := w_Has l hl y H
    rw [hne.1 rfl] at this ⊢
    exact this
def partsC (ps : List (List Int)) : List AV := ps.map fun p => .sl p.length (intC p)
def partsL (ps : List (List Int)) : AV := if ps = [] then .nilsl else .sl ps.length (partsC ps)
theorem partsC_frozen {ps : List (List Int)} : ∀ x ∈ partsC ps, x.frozen = true := by
  intro x hx
  obtain ⟨p, _, rfl⟩ := List.mem_map.1 hx
  simp only [AV.frozen]
  exact frozens_iff.2 intC_frozen
structure FZ where
  a : Nat
  op : Option Nat
  os : Option Nat
structure LZ where
  k : Nat
  b : Nat
theorem growB_succ {J : Int → Int → Bool} {S : Int → Bool} {v : Int} {b : Nat} {l : List Int} : growB J S v (b + 1) l = if J v b && !S b && !(growB J S v b l).contains (b : Int) then growB J S v b l ++ [(b : Int)] else growB J S v b l := rfl
theorem fallsB_succ {J : Int → Int → Bool} {S : Int → Bool} {n a : Nat} : fallsB J S n (a + 1) = if S a || (fallsB J S n a).flatten.contains (a : Int) then fallsB J S n a else fallsB J S n a ++ [partB J S n a] := rfl
theorem growB_len {J : Int → Int → Bool} {S : Int → Bool} {v : Int} : ∀ {b : Nat} {l : List Int}, (growB J S v b l).length ≤ l.length + b
  | 0, l => by simp [growB]
  | b + 1, l => by
    have := growB_len (J := J) (S := S) (v := v) (b := b) (l := l)
    rw [growB_succ]
    split
    · simp; omega
    · omega
theorem falls_flat {J : Int → Int → Bool} {S : Int → Bool} {n : Nat} : ∀ k, k ≤ n → (fallsB J S n k).flatten.length ≤ k * n
  | 0, _ => by simp [fallsB]
  | k + 1, hk => by
    have ih := falls_flat (J := J) (S := S) (n := n) k (by omega)
    rw [Nat.succ_mul]
    have hp := fallsB_part (J := J) (S := S) (n := n) (k + 1) hk
    rw [fallsB_succ] at hp ⊢
    split
    · omega
    · next h =>
      rw [if_neg h] at hp
      have := (hp (partB J S n k) (by simp)).2
      simp only [List.flatten_append, List.flatten_cons, List.flatten_nil, List.append_nil, List.length_append]
      omega
theorem w_Falls (N : Nat) (hN : 1 ≤ N ∧ N ≤ 40) (es : List Ed) (he : es.length ≤ 1000000) (s : List Int) (hs : s.length ≤ 1000000) :
    Pure Try.prog 30 [gV N es, intL s] (partsL (fallsB (joinB es) (fun x => s.contains x) N N)) := by
  refine pure_of (acalls_of Try.func30 rfl Try.call30 (by kernel_rfl) (by show _ ≤ (70 : Nat); simp) ?_)
  obtain ⟨V, hV⟩ : ∃ V, V = edL es := ⟨_, rfl⟩
  have hV1 : V.one = true := by rw [hV]; simp
  have hV2 : V.fit = true := by rw [hV]; simp
  have hV3 : V.cells = [V] := by rw [hV]; simp
  have hg : gV N es = .agg [.int .i64 N, V] := by rw [hV]; rfl
  obtain ⟨J, hJ⟩ : ∃ J, J = joinB es := ⟨_, rfl⟩
  obtain ⟨S, hS⟩ : ∃ S : Int → Bool, S = fun x => s.contains x := ⟨_, rfl⟩
  have cj := fun a b => w_Joined N es he a b
  have ch := fun y => w_Has s hs y
  rw [← hS, ← hJ]
  rw [← hJ] at cj
  simp only [show ∀ y, s.contains y = S y from fun y => by rw [hS]] at ch
  rw [hg] at cj ⊢
  obtain ⟨F, hF⟩ : ∃ F, F = fallsB J S N := ⟨_, rfl⟩
  rw [← hF]
  simp [hV1, hV2, hV3]
  intro b2 hb2
  simp
  refine awp_loop_g (γ := FZ) (fun q t h => (q.a ≤ N) ∧ ((q.op = none ↔ F q.a = []) ∧ (q.os = none ↔ F q.a = []) ∧ ¬ q.op = some b2 ∧ ¬ q.os = some b2 ∧ (∀ x, q.op = some x → ¬ q.os = some x)) ∧ t 1 = intL s ∧ t 2 = .ptr b2 0 ∧ t 4 = .nilsl ∧ t 5 = ownV q.op (F q.a).length 1 ∧ t 6 = ownV q.os (F q.a).flatten.length 1 ∧ t 7 = .int .i64 q.a ∧ h = ((AHeap.empty.upd b2 (.cells [.int .i64 N, V])).updO q.op (partsC (F q.a))).updO q.os (intC (F q.a).flatten)) (fun q => N - q.a) (⟨0, none, none⟩) (turnA_self (by simp [hF, fallsB])) ?_
  rintro q t hx ⟨hi, ho, h1, h2, h4, h5, h6, h7, ex⟩
  obtain ⟨a, op, os⟩ := q
  simp only at h1 h2 h4 h5 h6 h7 hi ho ex
  rw [ex]
  clear ex
  obtain ⟨o1, o2, o3, o4, o5⟩ := ho
  have hFl : (F a).length ≤ a := by rw [hF]; exact fallsB_len a
  have hFf : (F a).flatten.length ≤ a * N := by rw [hF]; exact falls_flat a hi
  have hFf2 : a * N ≤ 1600 := Nat.le_trans (Nat.mul_le_mul (show a ≤ 40 by omega) hN.2) (by omega)
  have hFn : (F a).flatten = [] ↔ F a = [] := by
    constructor
    · intro e
      cases hFa : F a with
      | nil => rfl
      | cons p r =>
        rw [hFa] at e
        simp only [List.flatten_cons, List.append_eq_nil_iff] at e
        exact absurd e.1 (fallsB_part (J := J) (S := S) a hi p (by rw [← hF, hFa]; simp)).1
    · intro e; rw [e]; rfl
  obtain ⟨fl, hfl⟩ : ∃ fl, fl = (F a).flatten := ⟨_, rfl⟩
  rw [← hfl] at hFf hFn h6 ⊢
  have hFs : F (a + 1) = if S a || fl.contains (a : Int) then F a else F a ++ [partB J S N a] := by rw [hF, fallsB_succ, ← hF, hfl]
  by_cases hlt : a < N
  · have hltI : (a : Int) < (N : Int) := by omega
    have hwi : IntKind.i64.wrap ((a : Int) + 1) = (a : Int) + 1 := wrap_i64 (by omega) (by omega)
    simp [h1, h2, h4, h5, h6, h7, hltI, hlt, o3, o4]
    refine (ch a).use ?_
    obtain ⟨A1, hA1⟩ : ∃ A1, S a = A1 := ⟨_, rfl⟩
    rw [hA1] at hFs ⊢
    cases A1 with
    | true =>
      simp [h1, h2, h4, h5, h6, h7]
      rw [Bool.true_or, if_pos rfl] at hFs
      exact turnA_self ⟨⟨a + 1, op, os⟩, by simp only; omega, by simp only; omega, by simp only; rw [hFs]; exact ⟨o1, o2, o3, o4, o5⟩, by simp [h1, h2, h4, h5, h6, h7, hwi, hFs, hfl]⟩
    | false =>
      simp [h1, h2, h4, h5, h6, h7]
      refine (l_HasN fl os a _ (by omega) (fun b e => by subst e; simp) (by rw [o2, hFn])).use ?_
      obtain ⟨A2, hA2⟩ : ∃ A2, fl.contains (a : Int) = A2 := ⟨_, rfl⟩
      rw [hA2] at hFs ⊢
      cases A2 with
      | true =>
        simp [h1, h2, h4, h5, h6, h7]
        rw [Bool.or_true, if_pos rfl] at hFs
        exact turnA_self ⟨⟨a + 1, op, os⟩, by simp only; omega, by simp only; omega, by simp only; rw [hFs]; exact ⟨o1, o2, o3, o4, o5⟩, by simp [h1, h2, h4, h5, h6, h7, hwi, hFs, hfl]⟩
      | false =>
        rw [Bool.or_false, if_neg (by simp)] at hFs
        simp [h1, h2, h4, h5, h6, h7]
        intro bl0 hbl0
        obtain ⟨h0, hh0⟩ : ∃ h0, h0 = ((AHeap.empty.upd b2 (.cells [.int .i64 N, V])).updO op (partsC (F a))).updO os (intC fl) := ⟨_, rfl⟩
        rw [← hh0] at hbl0 ⊢
        have c2 : ∀ off, cellsAt h0 b2 off = some (([.int .i64 N, V] : List AV).drop off) := fun off => by rw [hh0]; simp [o3, o4]
        obtain ⟨L, hL⟩ : ∃ L, L = stage J S N a := ⟨_, rfl⟩
        have L0 : L 0 = [(a : Int)] := by rw [hL]; rfl
        have Lok : ∀ k, StOk J S N a (L k) := fun k => by rw [hL]; exact stage_ok _ k
        have Lle : ∀ k, (L k).length ≤ N := fun k => (Lok k).le hlt hA1
        have i0 : intC [(a : Int)] = [.int .i64 (a : Int)] := rfl
        refine awp_loop_g (γ := LZ) (fun z t h => (z.k ≤ N) ∧ (Fresh h0 z.b) ∧ t 1 = intL s ∧ t 2 = .ptr b2 0 ∧ t 4 = .nilsl ∧ t 5 = ownV op (F a).length 1 ∧ t 6 = ownV os fl.length 1 ∧ t 7 = .int .i64 a ∧ t 8 = .osl z.b 0 (L z.k).length 1 ∧ t 9 = .int .i64 z.k ∧ h = h0.upd z.b (.cells (intC (L z.k)))) (fun z => N - z.k) (⟨0, bl0⟩) (turnA_self (by simp [h1, h2, h4, h5, h6, h7, L0, hbl0, i0])) ?_
        rintro z t hy ⟨hk, hb, h1, h2, h4, h5, h6, h7, h8, h9, ey⟩
        obtain ⟨k, bl⟩ := z
        simp only at h1 h2 h4 h5 h6 h7 h8 h9 hk hb ey
        rw [ey]
        clear ey
        have hb2l := ne_fresh (c2 0) hb
        have hLk := Lle k
        by_cases hkl : k < (L k).length
        · have hklI : (k : Int) < ((L k).length : Int) := by omega
          have hwk : IntKind.i64.wrap ((k : Int) + 1) = (k : Int) + 1 := wrap_i64 (by omega) (by omega)
          obtain ⟨v, hv⟩ : ∃ v, (L k)[k]? = some v := ⟨_, List.getElem?_eq_getElem hkl⟩
          have hLn : L (k + 1) = growB J S v N (L k) := by rw [hL]; exact stage_some (by rw [← hL]; exact hv)
          obtain ⟨G, hG⟩ : ∃ G : Nat → List Int, G = fun b => growB J S v b (L k) := ⟨_, rfl⟩
          have G0 : G 0 = L k := by rw [hG]; rfl
          have Gl : ∀ b, (G b).length ≤ (L k).length + b := fun b => by rw [hG]; exact growB_len
          have Gs : ∀ b : Nat, G (b + 1) = if J v b && !S b && !(G b).contains (b : Int) then G b ++ [(b : Int)] else G b := fun b => by rw [hG]; exact growB_succ
          have Gv : ∀ b, (G b)[k]? = some v := fun b => by
            obtain ⟨r, hr⟩ := growB_sub (J := J) (S := S) (v := v) b (L k)
            rw [hG]; simp only; rw [hr, List.getElem?_append_left hkl]; exact hv
          have Gne : ∀ b, G b ≠ [] := fun b e => by have := Gv b; rw [e] at this; simp at this
          rw [show growB J S v N (L k) = G N from by rw [hG]] at hLn
          simp [h1, h2, h4, h5, h6, h7, h8, h9, hkl, hklI, hb2l]
          refine awp_loop_g (γ := LZ) (fun y t h => (y.k ≤ N) ∧ (Fresh h0 y.b) ∧ t 1 = intL s ∧ t 2 = .ptr b2 0 ∧ t 4 = .nilsl ∧ t 5 = ownV op (F a).length 1 ∧ t 6 = ownV os fl.length 1 ∧ t 7 = .int .i64 a ∧ t 8 = .osl y.b 0 (G y.k).length 1 ∧ t 9 = .int .i64 k ∧ t 10 = .int .i64 y.k ∧ h = h0.upd y.b (.cells (intC (G y.k)))) (fun y => N - y.k) (⟨0, bl⟩) (turnA_self (by simp [h1, h2, h4, h5, h6, h7, h8, h9, G0, hb])) ?_
          rintro y t hw ⟨hbk, hbb, h1, h2, h4, h5, h6, h7, h8, h9, h10, ew⟩
          obtain ⟨b, bx⟩ := y
          simp only at h1 h2 h4 h5 h6 h7 h8 h9 h10 hbk hbb ew
          rw [ew]
          clear ew
          have hb2x := ne_fresh (c2 0) hbb
          have hGb := Gs b
          have hGl := Gl b
          by_cases hbN : b < N
          · have hbNI : (b : Int) < (N : Int) := by omega
            have hwb : IntKind.i64.wrap ((b : Int) + 1) = (b : Int) + 1 := wrap_i64 (by omega) (by omega)
            have hkG : k < (G b).length := by
              rcases Nat.lt_or_ge k (G b).length with q | q
              · exact q
              · have := Gv b; rw [List.getElem?_eq_none q] at this; cases this
            have hkGI : (k : Int) < ((G b).length : Int) := by omega
            have hat := intC_at (Gv b)
            simp [h1, h2, h4, h5, h6, h7, h8, h9, h10, hbN, hbNI, hb2x, c2]
            refine awp_draw_text (by kernel_rfl) [] [] (by kernel_rfl) (by kernel_rfl) (by simp) ?_
            simp [h1, h2, h4, h5, h6, h7, h8, h9, h10, hb2x, c2, hkG, hkGI, hat]
            refine (cj v b).use ?_
            obtain ⟨B1, hB1⟩ : ∃ B1, J v b = B1 := ⟨_, rfl⟩
            obtain ⟨B2, hB2⟩ : ∃ B2, S b = B2 := ⟨_, rfl⟩
            obtain ⟨B3, hB3⟩ : ∃ B3, (G b).contains (b : Int) = B3 := ⟨_, rfl⟩
            rw [hB1, hB2, hB3] at hGb
            simp [h1, h2, h4, h5, h6, h7, h8, h9, h10, hB1]
            cases B1 with
            | false =>
              rw [Bool.false_and, Bool.false_and, if_neg (by simp)] at hGb
              simp [h1, h2, h4, h5, h6, h7, h8, h9, h10]
              exact turnA_self ⟨⟨b + 1, bx⟩, by simp only; omega, by simp only; omega, hbb, by simp [h1, h2, h4, h5, h6, h7, h8, h9, h10, hwb, hGb]⟩
            | true =>
              simp [h1, h2, h4, h5, h6, h7, h8, h9, h10]
              refine (ch b).use ?_
              rw [hB2]
              cases B2 with
              | true =>
                rw [if_neg (by simp)] at hGb
                simp [h1, h2, h4, h5, h6, h7, h8, h9, h10]
                exact turnA_self ⟨⟨b + 1, bx⟩, by simp only; omega, by simp only; omega, hbb, by simp [h1, h2, h4, h5, h6, h7, h8, h9, h10, hwb, hGb]⟩
              | false =>
                simp [h1, h2, h4, h5, h6, h7, h8, h9, h10]
                refine (l_HasO (G b) bx b _ (by omega) (by simp) (Gne b)).use ?_
                rw [hB3]
                cases B3 with
                | true =>
                  rw [if_neg (by simp)] at hGb
                  simp [h1, h2, h4, h5, h6, h7, h8, h9, h10]
                  exact turnA_self ⟨⟨b + 1, bx⟩, by simp only; omega, by simp only; omega, hbb, by simp [h1, h2, h4, h5, h6, h7, h8, h9, h10, hwb, hGb]⟩
                | false =>
                  rw [if_pos (by simp)] at hGb
                  simp [h1, h2, h4, h5, h6, h7, h8, h9, h10]
                  intro bn hbn
                  simp at hbn
                  simp [h1, h2, h4, h5, h6, h7, h8, h9, h10, hbn]
                  have hbn0 : Fresh h0 bn := by simp [hbn]
                  have hdel : h0.del bx = h0 := by
                    funext y
                    by_cases e : y = bx
                    · subst e; rw [AHeap.del_same]; exact hbb.symm
                    · exact AHeap.del_ne e
                  rw [hdel]
                  refine ⟨by omega, fun b' hb' => ?_⟩
                  simp at hb'
                  have hts : intC (G b) ++ [.int .i64 (b : Int)] = intC (G (b + 1)) := by rw [hGb]; simp [intC]
                  have hlG : (G (b + 1)).length = (G b).length + 1 := by rw [hGb]; simp
                  rw [hts]
                  simp [h1, h2, h4, h5, h6, h7, h8, h9, h10, hb']
                  refine turnA_to (h0.upd b' (.cells (intC (G (b + 1))))) ?_ ⟨⟨b + 1, b'⟩, by simp only; omega, by simp only; omega, by simp [hb'], by simp [h1, h2, h4, h5, h6, h7, h8, h9, h10, hwb, hlG]⟩
                  exact Drop.both (Drop.new (Drop.refl _) (by simpa [Fresh] using hbn0))
          · obtain rfl : b = N := by omega
            simp [h1, h2, h4, h5, h6, h7, h8, h9, h10, hb2x, c2]
            exact turnA_self ⟨⟨k + 1, bx⟩, by simp only; omega, by simp only; omega, hbb, by simp [h1, h2, h4, h5, h6, h7, h8, h9, h10, hwk, hLn]⟩
        · have hLp : L k = partB J S N a := by rw [hL]; exact partB_of hk (by rw [← hL]; omega)
          have hLne : L k ≠ [] := List.ne_nil_of_mem (Lok k).mem
          have hLpos : 0 < (L k).length := List.length_pos_iff.2 hLne
          rw [← hLp] at hFs
          have hfs : (F (a + 1)).flatten = fl ++ L k := by rw [hFs, hfl]; simp
          simp [h1, h2, h4, h5, h6, h7, h8, h9, hkl, hb2l]
          rw [hh0] at hb ⊢
          simp at hb
          obtain ⟨hb1, hb2, hb3⟩ := hb
          rw [updO_upd hb1, updO_upd hb2]
          rw [show List.take (L k).length (intC (L k)) = intC (L k) from List.take_of_length_le (by simp)]
          refine appendA_updO hLpos (by omega) (fun e => by rw [hFn.2 (o2.1 e)]; rfl) (by simp) (by simp) ?_ fun bs hbs => ?_
          · refine freshO_of fun x e => ?_
            have e1 : ¬ op = some x := fun q => o5 x q e
            have e2 : ¬ b2 = x := fun q => o4 (q ▸ e)
            have e3 : ¬ bl = x := fun q => hb1 (q ▸ e)
            simp [e1, e2, e3, Ne.symm e2, Ne.symm e3]
          simp [hb1, hb2, hb3] at hbs
          have hts : intC fl ++ intC (L k) = intC (fl ++ L k) := by simp [intC]
          rw [hts]
          simp [h1, h2, h4, h5, h6, h7, h8, h9, hbs]
          intro b66 hb66
          simp [hbs] at hb66
          simp [h1, h2, h4, h5, h6, h7, h8, h9, hb66, hbs]
          refine appendA_updO (es := 1) (n := (F a).length) (k := 1) Nat.zero_lt_one (by omega) (fun e => by rw [o1.1 e]; rfl) (by simp [partsC]) Nat.zero_lt_one ?_ fun bp hbp => ?_
          · refine freshO_of fun x e => ?_
            have e1 : ¬ b2 = x := fun q => o3 (q ▸ e)
            have e2 : ¬ bl = x := fun q => hb2 (q ▸ e)
            have e3 : ¬ bs = x := fun q => hbs.1 (q ▸ e)
            have e4 : ¬ b66 = x := fun q => hb66.1 (q ▸ e)
            simp [e1, e2, e3, e4, Ne.symm e1, Ne.symm e2, Ne.symm e3, Ne.symm e4]
          simp [hb66, hbs] at hbp
          simp [h1, h2, h4, h5, h6, h7, h8, h9, hbp, hb66, hbs]
          refine ⟨2, ((AHeap.empty.upd b2 (.cells [.int .i64 N, V])).upd bp (.cells (partsC (F (a + 1))))).upd bs (.cells (intC (F (a + 1)).flatten)), _, ?_, fun i => .inl rfl, ⟨⟨a + 1, some bp, some bs⟩, by simp only; omega, by simp only; omega, ?_, ?_⟩⟩
          · intro y
            by_cases ys : y = bs
            · subst ys
              refine .inr (.inl ?_)
              rw [AHeap.upd_same, hfs]
              simp [AHeap.upd, hbp, hb66]
            rw [AHeap.upd_ne ys]
            by_cases yp : y = bp
            · subst yp
              refine .inr (.inr ⟨_, AHeap.upd_same, ?_⟩)
              rw [AHeap.upd_same]
              simp only [List.map_append, List.map_cons, List.map_nil]
              rw [map_frozen partsC_frozen, frz_osl (by simp [Fresh, hbs, hbp, hb3]), cellsAt_eq (cs := intC (L k)) (by simp [AHeap.upd, hbs, hbp, hb66, hb3])]
              rw [hFs]
              simp [partsC]
              rw [map_frozen intC_frozen, List.take_of_length_le (by simp)]
            rw [AHeap.upd_ne yp]
            by_cases y2 : y = b2
            · subst y2
              refine .inr (.inl ?_)
              simp [AHeap.upd, hbs, hbp, hb66, hb3]
            · rw [AHeap.upd_ne y2]
              exact .inl rfl
          · simp only
            rw [hFs]
            simp [hbp, hb66, hbs]
          · have hfl2 : fl.length = (List.map List.length (F a)).sum := by rw [hfl, List.length_flatten]
            simp [h1, h2, h4, h5, h6, h7, h8, h9, hwi, hFs, hfs, hfl2]
  · obtain rfl : a = N := by omega
    simp [h1, h2, h4, h5, h6, h7, o3, o4]
    unfold partsL
    cases op with
    | none =>
      refine finA_drop ?_
      rw [if_pos (o1.1 rfl)]; simp [o1.1 rfl]
    | some x =>
      have hne : ¬ F a = [] := fun e => nomatch o1.2 e
      refine finA_all 2 ?_
      rw [if_neg hne]
      have hox : ¬ os = some x := o5 x rfl
      rw [ownV_some, frz_osl (by simp)]
      simp [hox]
      rw [map_frozen partsC_frozen, List.take_of_length_le (by simp [partsC]), if_pos (by simp [partsC])]
end Go.Proofs

end
