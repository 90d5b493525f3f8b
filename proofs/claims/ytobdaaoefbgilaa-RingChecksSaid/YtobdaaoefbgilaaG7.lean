/-
  Texts: RgL1 RgL2 RgL3.
-/
import Derived.Test.YtobdaaoefbgilaaG6
set_option linter.unusedSimpArgs false
set_option linter.unusedVariables false
set_option linter.unusedSectionVars false
section
/-
  Ring: plain law: the search for a ranking or a way round.
-/
namespace Go.Proofs
open Go Go.AH
set_option maxRecDepth 10000
set_option maxHeartbeats 4000000

structure DS where
  st : List Nat
  way : List Nat
  rank : List Int
structure VS where
  d : DS
  ok : Bool
  round : List Nat
def upN (ρ : List Int) (n : Nat) (v : Int) : List Int := ρ.set n (if ρ.getD n 0 < v then v else ρ.getD n 0)
def stepV (good : Nat → Bool) (v : DS → Nat → VS) (n : Nat) (g : VS) (t : Nat) : VS :=
  if good t = true then ⟨⟨g.d.st, g.d.way, upN g.d.rank n 1⟩, g.ok, g.round⟩
  else if g.d.st.getD t 0 = 1 then ⟨g.d, false, g.d.way.drop (g.d.way.idxOf t)⟩
  else if g.d.st.getD t 0 = 0 then
    (if (v g.d t).ok = true then ⟨⟨(v g.d t).d.st, (v g.d t).d.way, upN (v g.d t).d.rank n (IntKind.i64.wrap ((v g.d t).d.rank.getD t 0 + 1))⟩, true, (v g.d t).round⟩ else v g.d t)
  else ⟨⟨g.d.st, g.d.way, upN g.d.rank n (IntKind.i64.wrap (g.d.rank.getD t 0 + 1))⟩, g.ok, g.round⟩
def pushD (d : DS) (n : Nat) : DS := ⟨d.st.set n 1, d.way ++ [n], d.rank⟩
def popD (d : DS) (n : Nat) : DS := ⟨d.st.set n 2, d.way.dropLast, d.rank⟩
def visitF (good : Nat → Bool) (nx : Nat → List Nat) : Nat → DS → Nat → VS
  | 0, d, _ => ⟨d, false, []⟩
  | k + 1, d, n =>
    let r := runIt (stepV good (visitF good nx k) n) (fun g => g.ok) ⟨pushD d n, true, []⟩ (nx n)
    if r.ok = true then ⟨popD r.d n, true, r.round⟩ else r

theorem getD_app {l m : List Nat} {i : Nat} (h : i < l.length) : (l ++ m).getD i 0 = l.getD i 0 := by
  rw [List.getD_eq_getElem?_getD, List.getElem?_append_left h, ← List.getD_eq_getElem?_getD]
theorem getD_set {α : Type} (l : List α) (n m : Nat) (v x : α) : (l.set n v).getD m x = if n = m ∧ n < l.length then v else l.getD m x := by
  simp only [List.getD_eq_getElem?_getD, List.getElem?_set]
  by_cases e : n = m
  · subst e
    by_cases h : n < l.length
    · simp [h]
    · simp [h]; 
  · simp [e]
theorem runIt_inv {α γ : Type} {step : γ → α → γ} {go : γ → Bool} (Q : γ → List α → Prop) (L : List α) (hs : ∀ g Lp t, t ∈ L → go g = true → Q g Lp → Q (step g t) (Lp ++ [t])) :
    ∀ (L2 Lp : List α) (g : γ), Lp ++ L2 = L → go g = true → Q g Lp → ∃ Lp', Q (runIt step go g L2) Lp' ∧ (go (runIt step go g L2) = true → Lp' = L)
  | [], Lp, g, e, hg, q => ⟨Lp, q, fun _ => by simpa using e⟩
  | t :: L2, Lp, g, e, hg, q => by
    have q2 := hs g Lp t (by rw [← e]; simp) hg q
    simp only [runIt]
    by_cases h : go (step g t) = true
    · rw [if_pos h]
      exact runIt_inv Q L hs L2 (Lp ++ [t]) _ (by rw [← e]; simp) h q2
    · rw [if_neg h]
      exact ⟨_, q2, fun q => absurd q h⟩

section
variable (good : Nat → Bool) (nx : Nat → List Nat) (S : Nat)
structure RoundP (ρ : List Nat) : Prop where
  ne : ρ ≠ []
  nd : ρ.Nodup
  lt : ∀ x ∈ ρ, x < S
  bad : ∀ x ∈ ρ, good x = false
  nxt : ∀ i, i < ρ.length → ρ.getD ((i + 1) % ρ.length) 0 ∈ nx (ρ.getD i 0)
structure PI (d : DS) : Prop where
  sl : d.st.length = S
  rl : d.rank.length = S
  v : ∀ t, t < S → d.st.getD t 0 = 0 ∨ d.st.getD t 0 = 1 ∨ d.st.getD t 0 = 2
  wn : d.way.Nodup
  wm : ∀ t, t ∈ d.way ↔ t < S ∧ d.st.getD t 0 = 1
  wg : ∀ t ∈ d.way, good t = false
  wp : ∀ i, i + 1 < d.way.length → d.way.getD (i + 1) 0 ∈ nx (d.way.getD i 0)
  done : ∀ t, t < S → d.st.getD t 0 = 2 → good t = false ∧ ∃ v : Nat, d.rank.getD t 0 = (v : Int) ∧ Rk good nx t v
  zero : ∀ t, t < S → d.st.getD t 0 = 0 → d.rank.getD t 0 = 0
def zeros (d : DS) : Nat := d.st.countP fun x => decide (x = 0)
open Classical in
noncomputable def rkV (t : Nat) : Nat := if h : ∃ v, Rk good nx t v then Classical.choose h else 0
structure QG (d0 : DS) (n : Nat) (d : DS) (Lp : List Nat) : Prop where
  pi : PI good nx S d
  way : d.way = d0.way ++ [n]
  zz : zeros d + 1 ≤ zeros d0
  mono : ∀ t, t < S → d0.st.getD t 0 = 1 → d.rank.getD t 0 = d0.rank.getD t 0
  keep2 : ∀ t, t < S → d0.st.getD t 0 = 2 → d.st.getD t 0 = 2
  all : ∀ t ∈ Lp, Rk good nx t (rkV good nx t)
  rn : d.rank.getD n 0 = (maxL (Lp.map fun t => rkV good nx t + 1) : Nat)
def QV (d0 : DS) (n : Nat) (g : VS) (Lp : List Nat) : Prop := (g.ok = true → QG good nx S d0 n g.d Lp) ∧ (g.ok = false → RoundP good nx S g.round)
structure Done (d : DS) (n : Nat) (d2 : DS) : Prop where
  pi : PI good nx S d2
  way : d2.way = d.way
  two : d2.st.getD n 0 = 2
  zz : zeros d2 + 1 ≤ zeros d
  mono : ∀ t, t < S → d.st.getD t 0 = 1 → d2.rank.getD t 0 = d.rank.getD t 0
  keep2 : ∀ t, t < S → d.st.getD t 0 = 2 → d2.st.getD t 0 = 2
def VOK (v : DS → Nat → VS) (k : Nat) : Prop := ∀ d n, PI good nx S d → n < S → good n = false → d.st.getD n 0 = 0 → zeros d ≤ k → (∀ i, i + 1 = d.way.length → n ∈ nx (d.way.getD i 0)) →
  ((v d n).ok = true → Done good nx S d n (v d n).d) ∧ ((v d n).ok = false → RoundP good nx S (v d n).round)
end
section
variable {good : Nat → Bool} {nx : Nat → List Nat} {S : Nat}
theorem rkV_eq {t v : Nat} (h : Rk good nx t v) : rkV good nx t = v := by
  have hx : ∃ v, Rk good nx t v := ⟨v, h⟩
  unfold rkV
  rw [dif_pos hx]
  exact (Classical.choose_spec hx).det h
theorem PI.setR {d : DS} (P : PI good nx S d) {n : Nat} (hn : d.st.getD n 0 = 1) (x : Int) : PI good nx S ⟨d.st, d.way, d.rank.set n x⟩ := by
  refine ⟨P.sl, by simp [P.rl], P.v, P.wn, P.wm, P.wg, P.wp, fun t ht h => ?_, fun t ht h => ?_⟩
  · simp only at h ⊢
    rw [getD_set, if_neg (fun q => by rw [q.1, h] at hn; cases hn)]
    exact P.done t ht h
  · simp only at h ⊢
    rw [getD_set, if_neg (fun q => by rw [q.1, h] at hn; cases hn)]
    exact P.zero t ht h
theorem QG.n {d0 d : DS} {n : Nat} {Lp : List Nat} (q : QG good nx S d0 n d Lp) : n < S ∧ d.st.getD n 0 = 1 := (q.pi.wm n).1 (by rw [q.way]; simp)
/-- The step's number is raised. -/
theorem QG.up {d0 d : DS} {n : Nat} {Lp : List Nat} (q : QG good nx S d0 n d Lp) (h0 : d0.st.getD n 0 = 0) {t v : Nat} (hv : Rk good nx t v) : QG good nx S d0 n ⟨d.st, d.way, upN d.rank n ((v : Int) + 1)⟩ (Lp ++ [t]) := by
  obtain ⟨hn, h1⟩ := q.n
  have hrl : n < d.rank.length := by rw [q.pi.rl]; exact hn
  refine ⟨q.pi.setR h1 _, q.way, q.zz, fun t ht h => ?_, q.keep2, fun x hx => ?_, ?_⟩
  · show (upN d.rank n _).getD t 0 = _
    unfold upN
    rw [getD_set, if_neg (fun e => by rw [← e.1, h0] at h; cases h)]
    exact q.mono t ht h
  · rcases List.mem_append.1 hx with e | e
    · exact q.all x e
    · simp only [List.mem_singleton] at e; rw [e, rkV_eq hv]; exact hv
  · show (upN d.rank n _).getD n 0 = _
    unfold upN
    rw [getD_set, if_pos ⟨rfl, hrl⟩, q.rn, List.map_append, maxL_append]
    simp only [List.map_cons, List.map_nil, rkV_eq hv]
    rw [show maxL [v + 1] = v + 1 from by simp [maxL]]
    split <;> omega
theorem step_ok (hS : S ≤ 1000000) (hc : ∀ n, n < S → ∀ t ∈ nx n, t < S) {v : DS → Nat → VS} {k : Nat} (hv : VOK good nx S v k) {d0 : DS} (P0 : PI good nx S d0) {n : Nat} (h0 : d0.st.getD n 0 = 0) (hz : zeros d0 ≤ k + 1) (g : VS) (Lp : List Nat) (t : Nat) (ht : t ∈ nx n) (hg : g.ok = true) (q : QV good nx S d0 n g Lp) :
    QV good nx S d0 n (stepV good v n g t) (Lp ++ [t]) := by
  have Q := q.1 hg
  obtain ⟨hn, h1⟩ := Q.n
  have htS := hc n hn t ht
  unfold stepV
  by_cases e1 : good t = true
  · rw [if_pos e1]
    refine ⟨fun _ => ?_, fun e => by simp only at e; rw [hg] at e; cases e⟩
    exact Q.up h0 (.good e1)
  · rw [if_neg e1]
    have e1' : good t = false := by simpa using e1
    by_cases e2 : g.d.st.getD t 0 = 1
    · rw [if_pos e2]
      refine ⟨(fun e => by cases e), fun _ => ?_⟩
      have hm : t ∈ g.d.way := (Q.pi.wm t).2 ⟨htS, e2⟩
      have hi : g.d.way.idxOf t < g.d.way.length := List.idxOf_lt_length_of_mem hm
      obtain ⟨j, hj⟩ : ∃ j, j = g.d.way.idxOf t := ⟨_, rfl⟩
      have hjt : g.d.way.getD j 0 = t := by rw [hj]; simp [hi]
      show RoundP good nx S (g.d.way.drop (g.d.way.idxOf t))
      rw [← hj] at hi ⊢
      have hdl : (g.d.way.drop j).length = g.d.way.length - j := by simp
      have hdg : ∀ i, (g.d.way.drop j).getD i 0 = g.d.way.getD (j + i) 0 := by intro i; simp
      refine ⟨fun e => by rw [e] at hdl; simp at hdl; omega, Q.pi.wn.sublist (List.drop_sublist _ _), fun x hx => ((Q.pi.wm x).1 (List.mem_of_mem_drop hx)).1, fun x hx => Q.pi.wg x (List.mem_of_mem_drop hx), fun i hil => ?_⟩
      rw [hdl] at hil ⊢
      rw [hdg, hdg]
      by_cases e : i + 1 = g.d.way.length - j
      · rw [e, Nat.mod_self, Nat.add_zero, hjt]
        have : g.d.way.getD (j + i) 0 = n := by
          have hl := congrArg List.length Q.way
          rw [Q.way]
          simp at hl
          rw [show j + i = d0.way.length from by omega]
          simp
        rw [this]; exact ht
      · rw [Nat.mod_eq_of_lt (by omega)]
        exact Q.pi.wp (j + i) (by omega)
    · rw [if_neg e2]
      by_cases e3 : g.d.st.getD t 0 = 0
      · rw [if_pos e3]
        have hwl : ∀ i, i + 1 = g.d.way.length → t ∈ nx (g.d.way.getD i 0) := by
          intro i hi
          rw [Q.way] at hi ⊢
          simp at hi
          subst hi
          simpa using ht
        obtain ⟨a, b⟩ := hv g.d t Q.pi htS e1' e3 (by have := Q.zz; omega) hwl
        by_cases e4 : (v g.d t).ok = true
        · rw [if_pos e4]
          refine ⟨fun _ => ?_, fun e => by cases e⟩
          have D := a e4
          obtain ⟨_, w, hw1, hw2⟩ := D.pi.done t htS D.two
          have hwS := hw2.lt hc htS
          have Q2 : QG good nx S d0 n (v g.d t).d Lp := ⟨D.pi, by rw [D.way, Q.way], by have := D.zz; have := Q.zz; omega, fun x hx hx1 => by
            rw [D.mono x hx ?_]
            · exact Q.mono x hx hx1
            · exact ((Q.pi.wm x).1 (by rw [Q.way]; exact List.mem_append_left _ ((P0.wm x).2 ⟨hx, hx1⟩))).2, fun x hx hx2 => D.keep2 x hx (Q.keep2 x hx hx2), Q.all, by rw [D.mono n hn h1]; exact Q.rn⟩
          have := Q2.up h0 hw2
          rw [hw1, wrap_i64 (by omega) (by omega)]
          exact this
        · rw [if_neg e4]
          exact ⟨fun e => absurd e e4, b⟩
      · rw [if_neg e3]
        refine ⟨fun _ => ?_, fun e => by simp only at e; rw [hg] at e; cases e⟩
        have e5 : g.d.st.getD t 0 = 2 := by have := Q.pi.v t htS; omega
        obtain ⟨_, w, hw1, hw2⟩ := Q.pi.done t htS e5
        have hwS := hw2.lt hc htS
        have := Q.up h0 hw2
        rw [hw1, wrap_i64 (by omega) (by omega)]
        exact this
theorem zeros_set {d : DS} {n x : Nat} (hn : n < d.st.length) (h : d.st.getD n 0 = 0) (hx : x ≠ 0) {w : List Nat} {ρ : List Int} : zeros ⟨d.st.set n x, w, ρ⟩ + 1 = zeros d := by
  have hg : d.st[n] = 0 := by simpa [hn] using h
  unfold zeros
  simp only
  rw [List.countP_set hn]
  have hp : 0 < d.st.countP (fun x => decide (x = 0)) := List.countP_pos_iff.2 ⟨d.st[n], List.getElem_mem hn, by simpa using hg⟩
  rw [if_pos (by simpa using hg), if_neg (by simpa using hx)]
  omega
theorem zeros_set2 {d : DS} {n x : Nat} (hn : n < d.st.length) (h : d.st.getD n 0 ≠ 0) (hx : x ≠ 0) {w : List Nat} {ρ : List Int} : zeros ⟨d.st.set n x, w, ρ⟩ = zeros d := by
  have hg : ¬ d.st[n] = 0 := by simpa [hn] using h
  unfold zeros
  simp only
  rw [List.countP_set hn, if_neg (by simpa using hg), if_neg (by simpa using hx)]
  omega
theorem push_ok {d : DS} (P : PI good nx S d) {n : Nat} (hn : n < S) (hb : good n = false) (h0 : d.st.getD n 0 = 0) (hw : ∀ i, i + 1 = d.way.length → n ∈ nx (d.way.getD i 0)) : QV good nx S d n ⟨pushD d n, true, []⟩ [] := by
  have hnl : n < d.st.length := by rw [P.sl]; exact hn
  have hg : ∀ t, t < S → (d.st.set n 1).getD t 0 = if n = t then 1 else d.st.getD t 0 := by
    intro t ht
    rw [getD_set]
    by_cases e : n = t
    · rw [if_pos ⟨e, hnl⟩, if_pos e]
    · rw [if_neg (fun q => e q.1), if_neg e]
  have hnw : n ∉ d.way := fun q => by have := ((P.wm n).1 q).2; omega
  refine ⟨fun _ => ⟨⟨by simp [pushD, P.sl], P.rl, fun t ht => ?_, ?_, fun t => ?_, fun t ht => ?_, fun i hi => ?_, fun t ht h => ?_, fun t ht h => ?_⟩, rfl, ?_, fun t _ _ => rfl, fun t ht h => ?_, fun t ht => by simp at ht, ?_⟩, fun e => by cases e⟩
  · show (d.st.set n 1).getD t 0 = 0 ∨ _
    simp only [pushD, hg t ht]
    split
    · omega
    · exact P.v t ht
  · show (d.way ++ [n]).Nodup
    rw [List.nodup_append]
    refine ⟨P.wn, by simp, fun a ha b hb => ?_⟩
    simp only [List.mem_singleton] at hb
    rw [hb]; intro e; rw [e] at ha; exact hnw ha
  · show t ∈ d.way ++ [n] ↔ t < S ∧ (d.st.set n 1).getD t 0 = 1
    by_cases ht : t < S
    · rw [hg t ht, List.mem_append, List.mem_singleton]
      by_cases e : n = t
      · subst e; simp [hn]
      · rw [if_neg e, P.wm t]
        constructor
        · rintro (q | q)
          · exact q
          · exact absurd q.symm e
        · exact fun q => .inl q
    · rw [List.mem_append, List.mem_singleton, P.wm t]
      constructor
      · rintro (q | q)
        · exact absurd q.1 ht
        · rw [q] at ht; exact absurd hn ht
      · exact fun q => absurd q.1 ht
  · rcases List.mem_append.1 (show t ∈ d.way ++ [n] from ht) with q | q
    · exact P.wg t q
    · simp only [List.mem_singleton] at q; rw [q]; exact hb
  · show (d.way ++ [n]).getD (i + 1) 0 ∈ nx ((d.way ++ [n]).getD i 0)
    have hi' : i + 1 < d.way.length + 1 := by simpa [pushD] using hi
    by_cases e : i + 1 = d.way.length
    · have e1 : (d.way ++ [n]).getD (i + 1) 0 = n := by rw [e]; simp
      have e2 : (d.way ++ [n]).getD i 0 = d.way.getD i 0 := getD_app (by omega)
      rw [e1, e2]; exact hw i e
    · have e1 : (d.way ++ [n]).getD (i + 1) 0 = d.way.getD (i + 1) 0 := getD_app (by omega)
      have e2 : (d.way ++ [n]).getD i 0 = d.way.getD i 0 := getD_app (by omega)
      rw [e1, e2]; exact P.wp i (by omega)
  · simp only [pushD] at h ⊢
    rw [hg t ht] at h
    split at h
    · omega
    · exact P.done t ht h
  · simp only [pushD] at h ⊢
    rw [hg t ht] at h
    split at h
    · omega
    · exact P.zero t ht h
  · exact Nat.le_of_eq (zeros_set hnl h0 (by omega))
  · simp only [pushD]
    rw [hg t ht]
    split
    · next e => subst e; omega
    · exact h
  · show d.rank.getD n 0 = _
    rw [P.zero n hn h0]; rfl
theorem pop_ok {d0 d : DS} {n : Nat} (P0 : PI good nx S d0) (h0 : d0.st.getD n 0 = 0) (hb : good n = false) (q : QG good nx S d0 n d (nx n)) : Done good nx S d0 n (popD d n) := by
  obtain ⟨hn, h1⟩ := q.n
  have P := q.pi
  have hnl : n < d.st.length := by rw [P.sl]; exact hn
  have hg : ∀ t, t < S → (d.st.set n 2).getD t 0 = if n = t then 2 else d.st.getD t 0 := by
    intro t ht
    rw [getD_set]
    by_cases e : n = t
    · rw [if_pos ⟨e, hnl⟩, if_pos e]
    · rw [if_neg (fun q => e q.1), if_neg e]
  have hw : d.way.dropLast = d0.way := by rw [q.way]; simp
  have hrk : Rk good nx n (maxL ((nx n).map fun t => rkV good nx t + 1)) := .step (rkV good nx) hb q.all rfl
  refine ⟨⟨by simp [popD, P.sl], P.rl, fun t ht => ?_, ?_, fun t => ?_, fun t ht => ?_, fun i hi => ?_, fun t ht h => ?_, fun t ht h => ?_⟩, hw, ?_, ?_, q.mono, fun t ht h => ?_⟩
  · simp only [popD, hg t ht]
    split
    · omega
    · exact P.v t ht
  · show d.way.dropLast.Nodup
    rw [hw]; exact P0.wn
  · show t ∈ d.way.dropLast ↔ t < S ∧ (d.st.set n 2).getD t 0 = 1
    have hnw : n ∉ d0.way := fun q => by have := ((P0.wm n).1 q).2; omega
    rw [hw]
    have hwm := P.wm t
    rw [q.way, List.mem_append, List.mem_singleton] at hwm
    by_cases ht : t < S
    · rw [hg t ht]
      by_cases e : n = t
      · subst e; simp [hnw]
      · rw [if_neg e, ← hwm]
        constructor
        · exact fun q => .inl q
        · rintro (q | q)
          · exact q
          · exact absurd q.symm e
    · rw [P0.wm t]
      exact ⟨fun q => absurd q.1 ht, fun q => absurd q.1 ht⟩
  · have : t ∈ d.way.dropLast := ht
    rw [hw] at this
    exact P0.wg t this
  · simp only [popD, hw] at hi ⊢
    exact P0.wp i hi
  · simp only [popD] at h ⊢
    rw [hg t ht] at h
    split at h
    · next e => subst e; exact ⟨hb, _, q.rn, hrk⟩
    · exact P.done t ht h
  · simp only [popD] at h ⊢
    rw [hg t ht] at h
    split at h
    · omega
    · exact P.zero t ht h
  · show (d.st.set n 2).getD n 0 = 2
    rw [hg n hn, if_pos rfl]
  · have := q.zz
    rw [show zeros (popD d n) = zeros d from zeros_set2 hnl (by omega) (by omega)]; exact this
  · simp only [popD]
    rw [hg t ht]
    split
    · rfl
    · exact q.keep2 t ht h
theorem visit_ok (hS : S ≤ 1000000) (hc : ∀ n, n < S → ∀ t ∈ nx n, t < S) : ∀ k, VOK good nx S (visitF good nx k) k
  | 0 => fun d n P hn hb h0 hz _ => by
    have hnl : n < d.st.length := by rw [P.sl]; exact hn
    have := zeros_set (d := d) hnl h0 (x := 1) (by omega) (w := []) (ρ := [])
    omega
  | k + 1 => fun d n P hn hb h0 hz hw => by
    obtain ⟨Lp, q, hq⟩ := runIt_inv (step := stepV good (visitF good nx k) n) (go := fun g => g.ok) (QV good nx S d n) (nx n) (fun g Lp t ht hg q => step_ok hS hc (visit_ok hS hc k) P h0 hz g Lp t ht hg q) (nx n) [] ⟨pushD d n, true, []⟩ rfl rfl (push_ok P hn hb h0 hw)
    simp only [visitF]
    obtain ⟨r, hr⟩ : ∃ r, r = runIt (stepV good (visitF good nx k) n) (fun g => g.ok) ⟨pushD d n, true, []⟩ (nx n) := ⟨_, rfl⟩
    rw [← hr] at q hq ⊢
    by_cases e : r.ok = true
    · rw [if_pos e]
      refine ⟨fun _ => ?_, fun e => by cases e⟩
      rw [hq e] at q
      exact pop_ok P h0 hb (q.1 e)
    · rw [if_neg e]
      exact ⟨fun e2 => absurd e2 e, q.2⟩
end
end Go.Proofs

end

section
/-
  Ring: the search's memory.
-/
namespace Go.Proofs
open Go Go.AH
set_option maxRecDepth 10000
set_option maxHeartbeats 4000000

/-- A function's end may forget tails. -/
theorem ACalls.trunc {P : Program} {f : FuncId} {args : List AV} {h : AHeap} {R : AV → AHeap → Prop} (c : ACalls P f args h fun r h' => ∃ h2, SubT h' h2 ∧ R r h2) : ACalls P f args h R := by
  refine ⟨c.1, fun hf w vs D Rl rs => CallsIn.mono' (c.2 hf w vs D Rl rs) ?_⟩
  rintro en w' ⟨v, r, h1, rfl, ⟨h2, s, q⟩, D1, R1, rv, st⟩
  exact ⟨v, r, h2, rfl, q, s.disj D1, s.rel R1, rv.ext s.ext, st.trans s.stp⟩

def delO (h : AHeap) (o : Option Nat) : AHeap := match o with | none => h | some b => h.del b
theorem delO_at {h : AHeap} {o : Option Nat} {b : Nat} (hb : ¬ o = some b) : delO h o b = h b := by
  cases o with
  | none => rfl
  | some x => exact AHeap.del_ne (fun e => hb (by rw [e]))
theorem fresh_delO {h : AHeap} {o : Option Nat} {b : Nat} (hf : Fresh (delO h o) b) : o = some b ∨ h b = none := by
  by_cases e : o = some b
  · exact .inl e
  · right; have q := delO_at (h := h) e; rw [← q]; exact hf
theorem appendA_at {h : AHeap} {o : Option Nat} {n es k : Nat} {cs xs : List AV} {K : AV → AHeap → Prop} (hk : 0 < k) (hn : n + k < 1073741824) (he : o = none → cs = []) (hl : cs.length = n * es) (hes : 0 < es) (hb : ∀ b, o = some b → h b = some (.cells cs))
    (q : ∀ b, Fresh (delO h o) b → K (.osl b 0 (n + k) es) ((delO h o).upd b (.cells (cs ++ xs)))) : appendA h es (ownV o n es) k xs K := by
  cases o with
  | none =>
    obtain rfl := he rfl
    have hn0 : n = 0 := by
      rcases Nat.eq_zero_or_pos n with h | h
      · exact h
      · have := Nat.mul_pos h hes
        simp at hl; omega
    subst hn0
    rw [ownV_none, appendA_nilsl]
    refine ⟨fun e => by omega, fun _ => ⟨by omega, fun b hb => ?_⟩⟩
    have := q b hb
    rw [Nat.zero_add] at this
    exact this
  | some x =>
    have hx := hb x rfl
    have hc : cellsAt h x 0 = some cs := by simp [cellsAt, hx]
    rw [ownV_some, appendA_osl, hc]
    exact ⟨rfl, by omega, hl, fun b hb => q b hb⟩

structure BK where
  b1 : Nat
  b2 : Nat
  b3 : Nat
  b4 : Nat
  b5 : Nat
  b6 : Nat
  bj : Nat
  bR : Nat
  bS : Nat
def BK.fix (B : BK) : List Nat := [B.b1, B.b2, B.b3, B.b4, B.b5, B.b6, B.bj, B.bR, B.bS]
def BK.caps (B : BK) : List AV := [.ptr B.b4 0, .ptr B.b5 0, .ptr B.b1 0, .ptr B.b2 0, .ptr B.b3 0, .ptr B.b6 0]
def natC (l : List Nat) : List AV := l.map fun x : Nat => AV.int .i64 (x : Int)
def u8C (l : List Nat) : List AV := l.map fun x : Nat => AV.int .u8 (x : Int)
def Holds (h : AHeap) (b : Nat) (cs : List AV) : Prop := ∀ off, cellsAt h b off = some (cs.drop off)
theorem Holds.at {h : AHeap} {b : Nat} {cs : List AV} (e : Holds h b cs) : h b = some (.cells cs) := of_cellsAt (by have := e 0; simpa using this)
theorem Holds.of {h : AHeap} {b : Nat} {cs : List AV} (e : h b = some (.cells cs)) : Holds h b cs := fun off => cellsAt_of e off
theorem Holds.eq {h h' : AHeap} {b : Nat} {cs : List AV} (e : Holds h b cs) (q : h' b = h b) : Holds h' b cs := .of (by rw [q]; exact e.at)
theorem Holds.here {h : AHeap} {b : Nat} {cs : List AV} : Holds (h.upd b (.cells cs)) b cs := .of AHeap.upd_same
theorem Holds.put {h : AHeap} {b b' : Nat} {c : Chunk} {cs : List AV} (e : Holds h b cs) (q : ¬ b = b') : Holds (h.upd b' c) b cs := e.eq (AHeap.upd_ne q)
theorem Holds.ne {h : AHeap} {b : Nat} {cs : List AV} (e : Holds h b cs) : h b ≠ none := by rw [e.at]; simp
theorem JAt.holds {r : Rul} {joint : Bool} {b : Nat} {h : AHeap} (e : JAt r joint b h) : Holds h b (jCells r joint b) := e

/-- What is not the search's own is kept; the way's block is the one of before, or new. -/
structure Kp (M : List Nat) (o0 : Option Nat) (h0 h : AHeap) (o : Option Nat) : Prop where
  keep : ∀ b, h0 b ≠ none → b ∉ M → o0 ≠ some b → h b = h0 b
  new : o = o0 ∨ ∃ b, o = some b ∧ h0 b = none
  inM : ∀ b ∈ M, h b ≠ none
theorem Kp.refl {M : List Nat} {o : Option Nat} {h : AHeap} (hM : ∀ b ∈ M, h b ≠ none) : Kp M o h h o := ⟨fun _ _ _ _ => rfl, .inl rfl, hM⟩
theorem Kp.trans {M : List Nat} {o0 o1 o2 : Option Nat} {h0 h1 h2 : AHeap} (a : Kp M o0 h0 h1 o1) (b : Kp M o1 h1 h2 o2) : Kp M o0 h0 h2 o2 := by
  refine ⟨fun x h hM ho => ?_, ?_, b.inM⟩
  · have e := a.keep x h hM ho
    rw [← e]
    refine b.keep x (by rw [e]; exact h) hM (fun q => ?_)
    rcases a.new with q2 | ⟨y, q2, q3⟩
    · rw [q2] at q; exact ho q
    · rw [q2] at q; cases q; exact h q3
  · rcases b.new with q | ⟨y, q1, q2⟩
    · rw [q]; exact a.new
    · by_cases hy : h0 y = none
      · exact .inr ⟨y, q1, hy⟩
      · by_cases hM : y ∈ M
        · exact absurd q2 (a.inM y hM)
        · by_cases ho : o0 = some y
          · left; rw [q1, ho]
          · have := a.keep y hy hM ho
            rw [q2] at this; exact absurd this.symm hy
theorem Kp.fresh {M : List Nat} {o0 o : Option Nat} {h0 h : AHeap} (a : Kp M o0 h0 h o) {b : Nat} {c : Chunk} (hb : Fresh h b) : Kp M o0 h0 (h.upd b c) o :=
  a.trans ⟨fun x hx _ _ => AHeap.upd_ne (fun e => hx (by rw [e]; exact hb)), .inl rfl, fun x hx => by
    by_cases e : x = b
    · subst e; rw [AHeap.upd_same]; simp
    · rw [AHeap.upd_ne e]; exact a.inM x hx⟩
theorem Kp.put {M : List Nat} {o0 o : Option Nat} {h0 h : AHeap} (a : Kp M o0 h0 h o) {b : Nat} {c : Chunk} (hb : b ∈ M) : Kp M o0 h0 (h.upd b c) o :=
  a.trans ⟨fun x _ hM _ => AHeap.upd_ne (fun e => hM (by rw [e]; exact hb)), .inl rfl, fun x hx => by
    by_cases e : x = b
    · subst e; rw [AHeap.upd_same]; simp
    · rw [AHeap.upd_ne e]; exact a.inM x hx⟩
theorem Kp.app {M : List Nat} {o0 o : Option Nat} {h0 h : AHeap} (a : Kp M o0 h0 h o) {b : Nat} {c : Chunk} (hb : Fresh (delO h o) b) (ho : ∀ x, o = some x → x ∉ M) : Kp M o0 h0 ((delO h o).upd b c) (some b) := by
  refine a.trans ⟨fun x hx hM hox => ?_, ?_, fun x hx => ?_⟩
  · have e : ¬ x = b := fun e => by
      subst e
      rcases fresh_delO hb with q | q
      · exact hox q
      · exact hx q
    rw [AHeap.upd_ne e]; exact delO_at hox
  · rcases fresh_delO hb with q | q
    · exact .inl q.symm
    · exact .inr ⟨b, rfl, q⟩
  · by_cases e : x = b
    · subst e; rw [AHeap.upd_same]; simp
    · rw [AHeap.upd_ne e, delO_at (fun q => ho x q hx)]; exact a.inM x hx

theorem Kp.own {M : List Nat} {o0 : Option Nat} {h0 h : AHeap} {b : Nat} {c : Chunk} (a : Kp M o0 h0 h (some b)) (hb : b ∉ M) : Kp M o0 h0 (h.upd b c) (some b) := by
  refine ⟨fun x h1 h2 h3 => ?_, a.new, fun x hx => ?_⟩
  · have e : ¬ x = b := fun e => by
      subst e
      rcases a.new with q | ⟨y, q1, q2⟩
      · exact h3 q.symm
      · cases q1; exact h1 q2
    rw [AHeap.upd_ne e]; exact a.keep x h1 h2 h3
  · by_cases e : x = b
    · exact absurd (by rw [← e]; exact hx) hb
    · rw [AHeap.upd_ne e]; exact a.inM x hx
theorem Kp.loose {M : List Nat} {o0 o : Option Nat} {h0 h : AHeap} {b : Nat} {c : Chunk} (a : Kp M o0 h0 h o) (hb : h0 b = none) : Kp M o0 h0 (h.upd b c) o :=
  ⟨fun x h1 h2 h3 => by rw [AHeap.upd_ne (fun e => h1 (by rw [e]; exact hb))]; exact a.keep x h1 h2 h3, a.new, fun x hx => by
    by_cases e : x = b
    · subst e; rw [AHeap.upd_same]; simp
    · rw [AHeap.upd_ne e]; exact a.inM x hx⟩
theorem Kp.give {M : List Nat} {o0 : Option Nat} {h0 h : AHeap} {b : Nat} (a : Kp M o0 h0 h (some b)) (hb : b ∉ M) : Kp M o0 h0 (h.del b) (some b) := by
  refine ⟨fun x h1 h2 h3 => ?_, a.new, fun x hx => ?_⟩
  · have e : ¬ x = b := fun e => by
      subst e
      rcases a.new with q | ⟨y, q1, q2⟩
      · exact h3 q.symm
      · cases q1; exact h1 q2
    rw [AHeap.del_ne e]; exact a.keep x h1 h2 h3
  · by_cases e : x = b
    · exact absurd (by rw [← e]; exact hx) hb
    · rw [AHeap.del_ne e]; exact a.inM x hx
theorem w_Clone (l : List Nat) (hl : l.length ≤ 1000000) (hne : l ≠ []) : Pure Try.prog 85 [natsA l] (natsA l) := by
  refine pure_of (acalls_of Try.func85 rfl Try.call85 (by kernel_rfl) (by show _ ≤ (8 : Nat); simp) ?_)
  have hl0 : ¬ l.length = 0 := fun e => hne (List.length_eq_zero_iff.1 e)
  have hla : listA l = natsA l := by unfold listA; rw [if_neg hne]
  obtain ⟨x, l', rfl⟩ : ∃ x l', l = x :: l' := by
    cases l with
    | nil => exact absurd rfl hne
    | cons x l' => exact ⟨x, l', rfl⟩
  simp at hl
  simp [natsA]
  intro b hb
  simp
  refine ⟨by omega, ?_⟩
  intro b2 hb2
  simp
  have := finA_list (R := fun r' _ => r' = .sl (l'.length + 1) (.int .i64 (x : Int) :: l'.map fun x : Nat => AV.int .i64 (x : Int))) (h := AHeap.empty) (o := some b2) (l := x :: l') (n := l'.length + 1) (by simp) (by simp) (by rw [hla]; simp [natsA])
  simpa using this
theorem Holds.self {h : AHeap} {b : Nat} {cs : List AV} (e : Holds h b cs) : h.upd b (.cells cs) = h := by
  apply funext
  intro x
  by_cases q : x = b
  · subst q; rw [AHeap.upd_same]; exact e.at.symm
  · exact AHeap.upd_ne q
def BK.mut (B : BK) : List Nat := [B.b3, B.b5, B.bR, B.bS]
structure VI (r : Rul) (joint : Bool) (S : Nat) (B : BK) (d : DS) (o : Option Nat) (h : AHeap) : Prop where
  nd : B.fix.Nodup
  j : JAt r joint B.bj h
  e1 : Holds h B.b1 [.ptr B.bj 0]
  e2 : Holds h B.b2 [.osl B.bR 0 S 1]
  e3 : Holds h B.b3 [.nilsl]
  e4 : Holds h B.b4 [.osl B.bS 0 S 1]
  e5 : Holds h B.b5 [ownV o d.way.length 1]
  e6 : Holds h B.b6 [.fn (.func 84) [] B.caps]
  eR : Holds h B.bR (d.rank.map (.int .i64))
  eS : Holds h B.bS (u8C d.st)
  en : o = none → d.way = []
  ew : ∀ b, o = some b → Holds h b (natC d.way)
  no : ∀ b, o = some b → b ∉ B.fix

section
variable {r : Rul} {joint : Bool} {S : Nat} {B : BK} {d : DS} {o : Option Nat} {h : AHeap}
theorem VI.inM (V : VI r joint S B d o h) : ∀ b ∈ B.mut, h b ≠ none := by
  intro b hb
  simp only [BK.mut, List.mem_cons, List.not_mem_nil, or_false] at hb
  rcases hb with rfl | rfl | rfl | rfl
  · exact V.e3.ne
  · exact V.e5.ne
  · exact V.eR.ne
  · exact V.eS.ne
theorem VI.noM (V : VI r joint S B d o h) : ∀ b, o = some b → b ∉ B.mut := by
  intro b hb hm
  refine V.no b hb ?_
  simp only [BK.mut, BK.fix, List.mem_cons, List.not_mem_nil, or_false] at hm ⊢
  rcases hm with rfl | rfl | rfl | rfl <;> simp
/-- What hangs on the blocks alone. -/
theorem VI.of {h' : AHeap} (V : VI r joint S B d o h) (hf : ∀ b ∈ B.fix, h' b = h b) (ho : ∀ b, o = some b → h' b = h b) : VI r joint S B d o h' := by
  have q : ∀ {b cs}, Holds h b cs → b ∈ B.fix → Holds h' b cs := fun e m => e.eq (hf _ m)
  exact ⟨V.nd, q V.j.holds (by simp [BK.fix]), q V.e1 (by simp [BK.fix]), q V.e2 (by simp [BK.fix]), q V.e3 (by simp [BK.fix]), q V.e4 (by simp [BK.fix]), q V.e5 (by simp [BK.fix]), q V.e6 (by simp [BK.fix]), q V.eR (by simp [BK.fix]), q V.eS (by simp [BK.fix]), V.en, fun b e => (V.ew b e).eq (ho b e), V.no⟩
theorem VI.ne (V : VI r joint S B d o h) : ∀ b ∈ B.fix, h b ≠ none := by
  intro b hb
  simp only [BK.fix, List.mem_cons, List.not_mem_nil, or_false] at hb
  rcases hb with rfl | rfl | rfl | rfl | rfl | rfl | rfl | rfl | rfl
  · exact V.e1.ne
  · exact V.e2.ne
  · exact V.e3.ne
  · exact V.e4.ne
  · exact V.e5.ne
  · exact V.e6.ne
  · exact V.j.ne
  · exact V.eR.ne
  · exact V.eS.ne
theorem VI.fresh (V : VI r joint S B d o h) {b : Nat} {c : Chunk} (hb : Fresh h b) : VI r joint S B d o (h.upd b c) :=
  V.of (fun x hx => AHeap.upd_ne (fun e => V.ne x hx (by rw [e]; exact hb))) (fun x hx => AHeap.upd_ne (fun e => (V.ew x hx).ne (by rw [e]; exact hb)))
theorem VI.setS (V : VI r joint S B d o h) (l : List Nat) : VI r joint S B ⟨l, d.way, d.rank⟩ o (h.upd B.bS (.cells (u8C l))) := by
  have nd := V.nd
  simp only [BK.fix, List.nodup_cons, List.mem_cons, not_or, List.not_mem_nil] at nd
  have q : ∀ {b cs}, Holds h b cs → ¬ b = B.bS → Holds (h.upd B.bS (.cells (u8C l))) b cs := fun e n => e.put n
  refine ⟨V.nd, q V.j.holds ?_, q V.e1 ?_, q V.e2 ?_, q V.e3 ?_, q V.e4 ?_, q V.e5 ?_, q V.e6 ?_, q V.eR ?_, .here, V.en, fun b e => q (V.ew b e) (fun x => V.no b e (by rw [x]; simp [BK.fix])), V.no⟩ <;> simp_all
theorem VI.setR (V : VI r joint S B d o h) (l : List Int) : VI r joint S B ⟨d.st, d.way, l⟩ o (h.upd B.bR (.cells (l.map (.int .i64)))) := by
  have nd := V.nd
  simp only [BK.fix, List.nodup_cons, List.mem_cons, not_or, List.not_mem_nil] at nd
  have q : ∀ {b cs}, Holds h b cs → ¬ b = B.bR → Holds (h.upd B.bR (.cells (l.map (.int .i64)))) b cs := fun e n => e.put n
  refine ⟨V.nd, q V.j.holds ?_, q V.e1 ?_, q V.e2 ?_, q V.e3 ?_, q V.e4 ?_, q V.e5 ?_, q V.e6 ?_, .here, q V.eS (by simp_all [eq_comm]), V.en, fun b e => q (V.ew b e) (fun x => V.no b e (by rw [x]; simp [BK.fix])), V.no⟩ <;> simp_all
theorem VI.app (V : VI r joint S B d o h) {b n : Nat} (hb : Fresh (delO h o) b) : VI r joint S B ⟨d.st, d.way ++ [n], d.rank⟩ (some b) (((delO h o).upd b (.cells (natC d.way ++ [.int .i64 n]))).upd B.b5 (.cells [.osl b 0 (d.way.length + 1) 1])) := by
  have nd := V.nd
  simp only [BK.fix, List.nodup_cons, List.mem_cons, not_or, List.not_mem_nil] at nd
  have hbf : b ∉ B.fix := fun hm => by
    rcases fresh_delO hb with q | q
    · exact V.no b q hm
    · exact V.ne b hm q
  have q : ∀ {x cs}, Holds h x cs → x ∈ B.fix → ¬ x = B.b5 → Holds (((delO h o).upd b (.cells (natC d.way ++ [.int .i64 n]))).upd B.b5 (.cells [.osl b 0 (d.way.length + 1) 1])) x cs := fun {x cs} e m n5 => by
    refine Holds.put (Holds.put (e.eq (delO_at (fun q => V.no x q m))) (fun q => hbf (by rw [← q]; exact m))) n5
  have hb5 : ¬ b = B.b5 := fun e => hbf (by rw [e]; simp [BK.fix])
  refine ⟨V.nd, q V.j.holds (by simp [BK.fix]) ?_, q V.e1 (by simp [BK.fix]) ?_, q V.e2 (by simp [BK.fix]) ?_, q V.e3 (by simp [BK.fix]) ?_, q V.e4 (by simp [BK.fix]) ?_, ?_, q V.e6 (by simp [BK.fix]) ?_, q V.eR (by simp [BK.fix]) ?_, q V.eS (by simp [BK.fix]) ?_, by simp, fun x e => ?_, fun x e => ?_⟩
  rotate_left 5
  · have : Holds (((delO h o).upd b (.cells (natC d.way ++ [.int .i64 n]))).upd B.b5 (.cells [.osl b 0 (d.way.length + 1) 1])) B.b5 [.osl b 0 (d.way.length + 1) 1] := .here
    simpa using this
  rotate_left 3
  · cases e
    refine Holds.put ?_ hb5
    have : natC d.way ++ [.int .i64 n] = natC (d.way ++ [n]) := by simp [natC]
    simp only
    rw [← this]
    exact .here
  · cases e; exact hbf
  all_goals simp_all [eq_comm]
theorem VI.pop {ow : Nat} (V : VI r joint S B d (some ow) h) : VI r joint S B ⟨d.st, d.way.dropLast, d.rank⟩ (some ow) ((h.upd B.b5 (.cells [.osl ow 0 (d.way.length - 1) 1])).upd ow (.cells (natC d.way.dropLast))) := by
  have nd := V.nd
  have ho := V.no ow rfl
  simp only [BK.fix, List.nodup_cons, List.mem_cons, not_or, List.not_mem_nil] at nd
  have q : ∀ {b cs}, Holds h b cs → b ∈ B.fix → ¬ b = B.b5 → Holds ((h.upd B.b5 (.cells [.osl ow 0 (d.way.length - 1) 1])).upd ow (.cells (natC d.way.dropLast))) b cs := fun e m n => (e.put n).put (fun x => ho (by rw [← x]; exact m))
  refine ⟨V.nd, q V.j.holds (by simp [BK.fix]) ?_, q V.e1 (by simp [BK.fix]) ?_, q V.e2 (by simp [BK.fix]) ?_, q V.e3 (by simp [BK.fix]) ?_, q V.e4 (by simp [BK.fix]) ?_, ?_, q V.e6 (by simp [BK.fix]) ?_, q V.eR (by simp [BK.fix]) ?_, q V.eS (by simp [BK.fix]) ?_, (fun e => by cases e), fun x e => ?_, fun x e => ?_⟩
  rotate_left 5
  · have h5 : ¬ B.b5 = ow := fun e => ho (by rw [← e]; simp [BK.fix])
    have : Holds ((h.upd B.b5 (.cells [.osl ow 0 (d.way.length - 1) 1])).upd ow (.cells (natC d.way.dropLast))) B.b5 [.osl ow 0 (d.way.length - 1) 1] := Holds.here.put h5
    simpa using this
  rotate_left 3
  · cases e; exact .here
  · cases e; exact ho
  all_goals simp_all [eq_comm]
end
end Go.Proofs

end

section
/-
  Ring: the walk of the search.
-/
namespace Go.Proofs
open Go Go.AH
set_option maxRecDepth 10000
set_option maxHeartbeats 4000000

def VRes (r : Rul) (joint : Bool) (S : Nat) (B : BK) (g : VS) (o0 : Option Nat) (h0 : AHeap) (a : AV) (h : AHeap) : Prop :=
  a = .bool g.ok ∧ ∃ o, Kp B.mut o0 h0 h o ∧ (g.ok = true → VI r joint S B g.d o h) ∧ (g.ok = false → Holds h B.b3 [natsA g.round])

theorem jcell {r : Rul} {joint : Bool} {b : Nat} {h : AHeap} (e : JAt r joint b h) : ∀ off, cellsAt h b off = some (([.int .i64 r.m, .int .i64 r.c, rowsA r.next, .int .i64 (r.size : Nat), .sl r.size (readyL r r.size), jMoves joint b] : List AV).drop off) := e
theorem w_visit (r : Rul) (hr : r.ok) (joint : Bool) (S : Nat) (hS : S = r.size) (B : BK) : ∀ (k : Nat) (d : DS) (n : Nat) (o : Option Nat) (h : AHeap), VI r joint S B d o h → PI (goodF r) (fun n => moveL r n joint) S d → n < S → goodF r n = false → d.st.getD n 0 = 0 → zeros d ≤ k →
    (∀ i, i + 1 = d.way.length → n ∈ moveL r (d.way.getD i 0) joint) →
    ACalls Try.prog 84 (.int .i64 n :: B.caps) h (VRes r joint S B (visitF (goodF r) (fun n => moveL r n joint) k d n) o h)
  | 0 => fun d n o h V P hn hb h0 hz _ => by
    have hnl : n < d.st.length := by rw [P.sl]; exact hn
    have := zeros_set (d := d) hnl h0 (x := 1) (by omega) (w := []) (ρ := [])
    omega
  | k + 1 => fun d n o h V P hn hb h0 hz hw => by
    obtain ⟨b1, b2, b3, b4, b5, b6, bj, bR, bS⟩ := B
    have hsz := hr.sz
    refine ACalls.trunc (acalls_of Try.func84 rfl Try.call84 (by kernel_rfl) (by show _ ≤ (78 : Nat); simp [BK.caps]) ?_)
    have nd := V.nd
    simp only [BK.fix, List.nodup_cons, List.mem_cons, not_or, List.not_mem_nil, not_false_eq_true, and_true, true_and] at nd
    simp [BK.caps]
    intro b7 hb7
    simp
    intro b8 hb8
    obtain ⟨h78, h87, hb8'⟩ : ¬ b8 = b7 ∧ ¬ b7 = b8 ∧ Fresh h b8 := by simpa using hb8
    have V1 := (V.fresh (c := .cells [.int .i64 n]) hb7).fresh (c := .cells [.bool false]) hb8
    have K1 := ((Kp.refl (o := o) V.inM).fresh (c := .cells [.int .i64 n]) hb7).fresh (c := .cells [.bool false]) hb8
    have y7 : Holds ((h.upd b7 (.cells [.int .i64 n])).upd b8 (.cells [.bool false])) b7 [.int .i64 n] := Holds.here.put h87
    have y8 : Holds ((h.upd b7 (.cells [.int .i64 n])).upd b8 (.cells [.bool false])) b8 [.bool false] := .here
    obtain ⟨H1, hH1⟩ : ∃ H1, H1 = (h.upd b7 (.cells [.int .i64 n])).upd b8 (.cells [.bool false]) := ⟨_, rfl⟩
    rw [← hH1] at V1 K1 y7 y8 ⊢
    clear hH1 hb8
    have x1a : ∀ off, cellsAt H1 b1 off = some (([.ptr bj 0] : List AV).drop off) := V1.e1
    have x2a : ∀ off, cellsAt H1 b2 off = some (([.osl bR 0 S 1] : List AV).drop off) := V1.e2
    have x3a : ∀ off, cellsAt H1 b3 off = some (([.nilsl] : List AV).drop off) := V1.e3
    have x4a : ∀ off, cellsAt H1 b4 off = some (([.osl bS 0 S 1] : List AV).drop off) := V1.e4
    have x5a : ∀ off, cellsAt H1 b5 off = some (([ownV o d.way.length 1] : List AV).drop off) := V1.e5
    have x6a : ∀ off, cellsAt H1 b6 off = some (([.fn (.func 84) [] [.ptr b4 0, .ptr b5 0, .ptr b1 0, .ptr b2 0, .ptr b3 0, .ptr b6 0]] : List AV).drop off) := V1.e6
    have xRa := V1.eR
    have xSa := V1.eS
    have xja := jcell V1.j
    unfold Holds at xRa xSa
    unfold Holds at y7 y8
    have hnl : n < d.st.length := by rw [P.sl]; exact hn
    have hn1 : n + 1 ≤ S := by omega
    have hsp : splice (u8C d.st) n [.int .u8 1] = u8C (d.st.set n 1) := by
      rw [splice_one (by simp [u8C]; omega), u8C, u8C, List.map_set]; rfl
    have hul : (u8C d.st).length = S := by simp [u8C, P.sl]
    have g7 : ∀ b ∈ BK.fix ⟨b1, b2, b3, b4, b5, b6, bj, bR, bS⟩, ¬ b7 = b := fun b hb e => V.ne b hb (by rw [← e]; exact hb7)
    have g8 : ∀ b ∈ BK.fix ⟨b1, b2, b3, b4, b5, b6, bj, bR, bS⟩, ¬ b8 = b := fun b hb e => V.ne b hb (by rw [← e]; exact hb8')
    simp only [BK.fix, List.mem_cons, List.not_mem_nil, or_false, forall_eq_or_imp, forall_eq] at g7 g8
    simp [x4a, x5a, y7, xSa, hn, hn1, hsp, hul, nd, g7, g8]
    intro b9 hb9
    have V2 := V1.setS (d.st.set n 1)
    have K2 := K1.put (b := bS) (c := .cells (u8C (d.st.set n 1))) (by simp [BK.mut])
    have z7 : Holds (H1.upd bS (.cells (u8C (d.st.set n 1)))) b7 [.int .i64 n] := Holds.put y7 (by simp [g7])
    have z8 : Holds (H1.upd bS (.cells (u8C (d.st.set n 1)))) b8 [.bool false] := Holds.put y8 (by simp [g8])
    have V3 := V2.fresh (c := .cells [.int .i64 n]) hb9
    have K3 := K2.fresh (c := .cells [.int .i64 n]) hb9
    have w7 := z7.put (c := .cells [.int .i64 n]) (fun e => z7.ne (by rw [e]; exact hb9))
    have w8 := z8.put (c := .cells [.int .i64 n]) (fun e => z8.ne (by rw [e]; exact hb9))
    simp only at V3 K3 w7 w8
    obtain ⟨H3, hH3⟩ : ∃ H3, H3 = (H1.upd bS (.cells (u8C (d.st.set n 1)))).upd b9 (.cells [.int .i64 n]) := ⟨_, rfl⟩
    rw [← hH3] at V3 K3 w7 w8 ⊢
    have y9 : ∀ off, cellsAt H3 b9 off = some (([.int .i64 n] : List AV).drop off) := by rw [hH3]; exact Holds.here
    clear hH3 hb9 V2 K2 z7 z8
    have hwl : d.way.length ≤ S := nodup_ltN S d.way P.wn fun x hx => ((P.wm x).1 hx).1
    simp [y9]
    refine appendA_at (cs := natC d.way) (by omega) (by omega) (fun e => by rw [V.en e]; rfl) (by simp [natC]) (by simp) (fun b e => (V3.ew b e).at) fun b' hb' => ?_
    have V4 := V3.app (n := n) hb'
    have K4 := (K3.app (c := .cells (natC d.way ++ [.int .i64 n])) hb' V3.noM).put (b := b5) (c := .cells [.osl b' 0 (d.way.length + 1) 1]) (by simp [BK.mut])
    have gb' : ∀ b ∈ BK.fix ⟨b1, b2, b3, b4, b5, b6, bj, bR, bS⟩, ¬ b' = b := fun b hb e => by
      rcases fresh_delO hb' with q | q
      · exact V3.no b' q (by rw [e]; exact hb)
      · exact V3.ne b hb (by rw [← e]; exact q)
    have hol : ∀ (bb : Nat) (cs : List AV), Holds H3 bb cs → Fresh h bb → ¬ b' = bb → Holds ((delO H3 o).upd b' (.cells (natC d.way ++ [.int .i64 n]))) bb cs := fun bb cs q f1 f2 =>
      (q.eq (delO_at (fun e => (V.ew bb e).ne f1))).put (fun e => f2 e.symm)
    have gn : ∀ (bb : Nat) (cs : List AV), Holds H3 bb cs → Fresh h bb → ¬ b' = bb := fun bb cs q f1 e => by
      rcases fresh_delO hb' with q2 | q2
      · exact (V.ew b' q2).ne (by rw [e]; exact f1)
      · rw [e] at q2; exact q.ne q2
    have g9 := gn b7 _ w7 hb7
    have g10 := gn b8 _ w8 hb8'
    have m7 := hol b7 _ w7 hb7 g9
    have m8 := hol b8 _ w8 hb8' g10
    simp only [BK.fix, List.mem_cons, List.not_mem_nil, or_false, forall_eq_or_imp, forall_eq] at gb'
    have m7' := m7.put (b' := b5) (c := .cells [.osl b' 0 (d.way.length + 1) 1]) (by simp [g7])
    have m8' := m8.put (b' := b5) (c := .cells [.osl b' 0 (d.way.length + 1) 1]) (by simp [g8])
    have m5 : ∀ off, cellsAt ((delO H3 o).upd b' (.cells (natC d.way ++ [.int .i64 n]))) b5 off = some (([ownV o d.way.length 1] : List AV).drop off) :=
      (V3.e5.eq (delO_at (fun e => V3.no b5 e (by simp [BK.fix])))).put (fun e => gb'.2.2.2.2.1 e.symm)
    obtain ⟨H4, hH4⟩ : ∃ H4, H4 = (delO H3 o).upd b' (.cells (natC d.way ++ [.int .i64 n])) := ⟨_, rfl⟩
    rw [← hH4] at V4 K4 m7 m8 m7' m8' m5 ⊢
    simp [m5]
    obtain ⟨H5, hH5⟩ : ∃ H5, H5 = H4.upd b5 (.cells [.osl b' 0 (d.way.length + 1) 1]) := ⟨_, rfl⟩
    rw [← hH5] at V4 K4 m7' m8' ⊢
    clear hH5 hH4 m5 m7 m8 hol gn
    have x1b : ∀ off, cellsAt H5 b1 off = some (([.ptr bj 0] : List AV).drop off) := V4.e1
    have x2b : ∀ off, cellsAt H5 b2 off = some (([.osl bR 0 S 1] : List AV).drop off) := V4.e2
    have x3b : ∀ off, cellsAt H5 b3 off = some (([.nilsl] : List AV).drop off) := V4.e3
    have x4b : ∀ off, cellsAt H5 b4 off = some (([.osl bS 0 S 1] : List AV).drop off) := V4.e4
    have x5b : ∀ off, cellsAt H5 b5 off = some (([ownV (some b') (d.way ++ [n]).length 1] : List AV).drop off) := V4.e5
    have x6b : ∀ off, cellsAt H5 b6 off = some (([.fn (.func 84) [] [.ptr b4 0, .ptr b5 0, .ptr b1 0, .ptr b2 0, .ptr b3 0, .ptr b6 0]] : List AV).drop off) := V4.e6
    have xRb := V4.eR
    have xSb := V4.eS
    have xjb := jcell V4.j
    unfold Holds at xRb xSb
    have w7b : ∀ off, cellsAt H5 b7 off = some (([.int .i64 n] : List AV).drop off) := m7'
    refine awp_draw_text (by kernel_rfl) [] [] (by kernel_rfl) (by kernel_rfl) (by simp) ?_
    have cm := w_moves joint bj H5 V4.j.ne n
    simp [x1b, xjb, w7b]
    refine ACallV.mono cm ?_
    rintro _ hx ⟨rfl, ehx⟩
    rw [ehx]
    clear ehx hx
    have hnr : n < r.size := by omega
    have hSl : S ≤ 1000000 := by omega
    have hcl : ∀ n, n < S → ∀ t ∈ moveL r n joint, t < S := fun m _ => by rw [hS]; exact moveL_lt hr m joint
    simp
    refine awp_iterH (fun _ _ _ q ql => JAt.upd q ql) (S := JAt r joint bj) (by simp [mvFn]) (iter_moves r hr joint bj n hnr)
      (fun (g : VS) hh => ∃ o2, Kp [b3, b5, bR, bS] (some b') H5 hh o2 ∧ (g.ok = true → VI r joint S ⟨b1, b2, b3, b4, b5, b6, bj, bR, bS⟩ g.d o2 hh) ∧ (g.ok = false → Holds hh b3 [natsA g.round]) ∧ ∃ Lp, QV (goodF r) (fun n => moveL r n joint) S d n g Lp) ?_
      (stepV (goodF r) (visitF (goodF r) (fun n => moveL r n joint) k) n) (fun g => if g.ok then none else some .ret) ⟨pushD d n, true, []⟩ rfl ⟨some b', Kp.refl V4.inM, fun _ => V4, (fun e => by cases e), [], push_ok P hn hb h0 hw⟩ (by kernel_rfl) (by kernel_rfl) (by simp) (by intro a _; rfl) (.inl rfl) ?_ ?_ ?_
    · rintro g hh ⟨o2, K, _⟩
      have hkj := K.keep bj V4.j.ne (fun hm => by simp only [List.mem_cons, List.not_mem_nil, or_false] at hm; rcases hm with e | e | e | e <;> simp [e] at nd) (by simp; exact gb'.2.2.2.2.2.2.1)
      exact V4.j.holds.eq hkj
    · rintro l i g a hh ha _ hj ⟨o2, K, hV, _, Lp, hQ⟩
      have hg : g.ok = true := by
        cases e : g.ok with
        | true => rfl
        | false => rw [e] at hj; simp at hj
      have V := hV hg
      have hQ1 := hQ.1 hg
      have hk7 := K.keep b7 (by have := w7b 0; intro q; simp [cellsAt, q] at this) (by simp [g7]) (by simpa using fun e => g9 e)
      have hk8 := K.keep b8 m8'.ne (by simp [g8]) (by simpa using fun e => g10 e)
      have y7 : ∀ off, cellsAt hh b7 off = some (([.int .i64 n] : List AV).drop off) := m7'.eq hk7
      have y8 : ∀ off, cellsAt hh b8 off = some (([.bool false] : List AV).drop off) := m8'.eq hk8
      have har := hcl n hn a (List.mem_of_getElem? ha)
      have hQs := step_ok hSl hcl (visit_ok hSl hcl k) P h0 hz g Lp a (List.mem_of_getElem? ha) hg hQ
      have x1c : ∀ off, cellsAt hh b1 off = some (([.ptr bj 0] : List AV).drop off) := V.e1
      have x2c : ∀ off, cellsAt hh b2 off = some (([.osl bR 0 S 1] : List AV).drop off) := V.e2
      have x3c : ∀ off, cellsAt hh b3 off = some (([.nilsl] : List AV).drop off) := V.e3
      have x4c : ∀ off, cellsAt hh b4 off = some (([.osl bS 0 S 1] : List AV).drop off) := V.e4
      have x5c : ∀ off, cellsAt hh b5 off = some (([ownV o2 g.d.way.length 1] : List AV).drop off) := V.e5
      have x6c : ∀ off, cellsAt hh b6 off = some (([.fn (.func 84) [] [.ptr b4 0, .ptr b5 0, .ptr b1 0, .ptr b2 0, .ptr b3 0, .ptr b6 0]] : List AV).drop off) := V.e6
      have xRc := V.eR
      have xSc := V.eS
      have xjc := jcell V.j
      unfold Holds at xRc xSc
      have cg := w_good r hr joint bj hh V.j a (by omega)
      have hrl := hQ1.pi.rl
      have hsl := hQ1.pi.sl
      obtain ⟨x, hx⟩ : ∃ x, x = g.d.rank.getD n 0 := ⟨_, rfl⟩
      obtain ⟨y, hy⟩ : ∃ y, y = g.d.st.getD a 0 := ⟨_, rfl⟩
      have hrn : g.d.rank[n]? = some x := by rw [hx]; simp [show n < g.d.rank.length from by omega]
      have hsn : (u8C g.d.st)[a]? = some (.int .u8 (y : Int)) := by rw [hy]; simp [u8C, show a < g.d.st.length from by omega]
      obtain ⟨G, hG⟩ : ∃ G, G = stepV (goodF r) (visitF (goodF r) (fun n => moveL r n joint) k) n g a := ⟨_, rfl⟩
      rw [← hG] at hQs ⊢
      have fin : ∀ (h2 : AHeap) (o3 : Option Nat), Kp [b3, b5, bR, bS] (some b') H5 h2 o3 → G.ok = true → VI r joint S ⟨b1, b2, b3, b4, b5, b6, bj, bR, bS⟩ G.d o3 h2 →
          Exit.normal = (if G.ok = true then none else some Exit.ret).getD Exit.normal ∧ ∃ h3, Drop h2 h3 ∧ ∃ o2, Kp [b3, b5, bR, bS] (some b') H5 h3 o2 ∧ (G.ok = true → VI r joint S ⟨b1, b2, b3, b4, b5, b6, bj, bR, bS⟩ G.d o2 h3) ∧ (G.ok = false → Holds h3 b3 [natsA G.round]) ∧ ∃ Lp, QV (goodF r) (fun n => moveL r n joint) S d n G Lp :=
        fun h2 o3 K3 ok V3 => ⟨by rw [if_pos ok]; rfl, h2, Drop.refl _, o3, K3, fun _ => V3, (fun e => by rw [ok] at e; cases e), _, hQs⟩
      have fail : ∀ (h2 : AHeap) (o3 : Option Nat), Kp [b3, b5, bR, bS] (some b') H5 h2 o3 → G.ok = false → Holds h2 b3 [natsA G.round] →
          Exit.ret = (if G.ok = true then none else some Exit.ret).getD Exit.normal ∧ ∃ h3, Drop h2 h3 ∧ ∃ o2, Kp [b3, b5, bR, bS] (some b') H5 h3 o2 ∧ (G.ok = true → VI r joint S ⟨b1, b2, b3, b4, b5, b6, bj, bR, bS⟩ G.d o2 h3) ∧ (G.ok = false → Holds h3 b3 [natsA G.round]) ∧ ∃ Lp, QV (goodF r) (fun n => moveL r n joint) S d n G Lp :=
        fun h2 o3 K3 ok V3 => ⟨by rw [if_neg (by rw [ok]; simp)]; rfl, h2, Drop.refl _, o3, K3, (fun e => by rw [ok] at e; cases e), fun _ => V3, _, hQs⟩
      have hspR : ∀ (ρ : List Int) (v : Int), ρ.length = S → splice (ρ.map (AV.int .i64)) n [.int .i64 v] = (ρ.set n v).map (.int .i64) := fun ρ v e => by
        rw [splice_one (by simp; omega), List.map_set]
      simp [putsA, x1c]
      refine cg.use ?_
      simp
      cases hga : goodF r a with
      | true =>
        simp
        refine awp_draw_text (by kernel_rfl) [] [] (by kernel_rfl) (by kernel_rfl) (by simp) ?_
        simp [x2c, y7, xRc, hn, hn1, hrn]
        have hG2 : G = ⟨⟨g.d.st, g.d.way, upN g.d.rank n 1⟩, g.ok, g.round⟩ := by rw [hG, stepV, if_pos hga]
        refine ⟨by omega, ?_⟩
        rw [hspR _ _ (by omega)]
        refine fin _ o2 (K.put (by simp)) (by rw [hG2]; exact hg) ?_
        rw [hG2, upN, ← hx]
        exact V.setR _
      | false =>
        have hgn : ¬ goodF r a = true := by rw [hga]; simp
        simp [x4c, xSc, har, hsn]
        refine condA_dec (fun e1 => ?_) fun e1 => ?_
        · have hy1 : g.d.st.getD a 0 = 1 := by omega
          have hG2 : G = ⟨g.d, false, g.d.way.drop (g.d.way.idxOf a)⟩ := by rw [hG, stepV, if_neg hgn, if_pos hy1]
          simp
          obtain ⟨ow, rfl⟩ : ∃ ow, o2 = some ow := by
            cases o2 with
            | some ow => exact ⟨ow, rfl⟩
            | none => have := V.en rfl; rw [hQ1.way] at this; simp at this
          have hwy := V.ew ow rfl
          have hof := V.no ow rfl
          have hwn : g.d.way ≠ [] := by rw [hQ1.way]; simp
          have hwL : g.d.way.length ≤ S := nodup_ltN S g.d.way hQ1.pi.wn fun x hx => ((hQ1.pi.wm x).1 hx).1
          have ho5 : ¬ b5 = ow := fun e => hof (by rw [← e]; simp [BK.fix])
          have ho8 : ¬ b8 = ow := by
            rcases K.new with q | ⟨y2, q1, q2⟩
            · cases q; exact fun e => g10 e.symm
            · cases q1; intro e; rw [← e] at q2; exact m8'.ne q2
          have ho3 : ¬ b3 = ow := fun e => hof (by rw [← e]; simp [BK.fix])
          have hma : a ∈ g.d.way := (hQ1.pi.wm a).2 ⟨har, hy1⟩
          have hidx : g.d.way.idxOf a < g.d.way.length := List.idxOf_lt_length_of_mem hma
          obtain ⟨j, hj2⟩ : ∃ j, j = g.d.way.idxOf a := ⟨_, rfl⟩
          rw [← hj2] at hidx hG2
          refine AWP.turn ⟨1, (hh.del ow).upd b5 (.cells [natsA g.d.way]), _, fun b => ?_, fun i => .inl rfl, ?_⟩
          · by_cases q1 : b = b5
            · subst q1
              right; right
              refine ⟨_, V.e5.at, ?_⟩
              rw [AHeap.upd_same]
              have hfr : Fresh ((hh.del ow).upd b (.cells [natsA g.d.way])) ow := by
                show (hh.del ow).upd b (.cells [natsA g.d.way]) ow = none
                rw [AHeap.upd_ne (fun e => ho5 e.symm)]; exact AHeap.del_same
              simp only [ownV_some, List.map_cons, List.map_nil]
              rw [frz_osl hfr, hwy 0]
              simp [natC, natsA]
              rw [List.take_of_length_le (by simp)]
              exact (List.map_congr_left fun x _ => rfl).symm
            · by_cases q2 : b = ow
              · subst q2; left; rw [AHeap.upd_ne q1]; exact AHeap.del_same
              · right; left; rw [AHeap.upd_ne q1]; exact AHeap.del_ne q2
          · have K5 := (K.give (V.noM ow rfl)).put (b := b5) (c := .cells [natsA g.d.way]) (by simp)
            have z5 : ∀ off, cellsAt ((hh.del ow).upd b5 (.cells [natsA g.d.way])) b5 off = some (([natsA g.d.way] : List AV).drop off) := Holds.here
            have z3 : ∀ off, cellsAt ((hh.del ow).upd b5 (.cells [natsA g.d.way])) b3 off = some (([.nilsl] : List AV).drop off) := (V.e3.eq (AHeap.del_ne ho3)).put (by simp [nd])
            have z8 : Holds ((hh.del ow).upd b5 (.cells [natsA g.d.way])) b8 [.bool false] := Holds.put (Holds.eq (h := hh) y8 (AHeap.del_ne ho8)) (by simp [g8])
            obtain ⟨h7, hh7⟩ : ∃ h7, h7 = (hh.del ow).upd b5 (.cells [natsA g.d.way]) := ⟨_, rfl⟩
            rw [← hh7] at K5 z5 z3 z8 ⊢
            obtain ⟨W, hW⟩ : ∃ W, W = g.d.way := ⟨_, rfl⟩
            rw [← hW] at z5 hidx hwL hj2 hG2 hma
            have ci := w_Index (W.map fun x : Nat => (x : Int)) (by simp; omega) (a : Int)
            have hii : idxI (W.map fun x : Nat => (x : Int)) (fun y => decide (y = (a : Int))) = (j : Int) := by
              have h1 : (W.map fun x : Nat => (x : Int)).any (fun y => decide (y = (a : Int))) = true := List.any_eq_true.2 ⟨a, List.mem_map.2 ⟨a, hma, rfl⟩, by simp⟩
              rw [idxI, if_pos h1, hj2]
              congr 1
              rw [List.findIdx_map, List.idxOf]
              congr 1
              funext y
              simp only [Function.comp]
              by_cases e : y = a
              · subst e; simp
              · have : ¬ (y : Int) = a := by omega
                simp [e, this]
            have hWn : W ≠ [] := fun e => by rw [e] at hidx; simp at hidx
            rw [hii, listI_ne (by simpa using hWn), ← nats_ints] at ci
            have hdn : W.drop j ≠ [] := fun e => by have := congrArg List.length e; simp at this; omega
            have cc := w_Clone (W.drop j) (by simp; omega) hdn
            have hdv : natsA (W.drop j) = .sl (W.length - j) ((W.map fun x : Nat => AV.int .i64 (x : Int)).drop j) := by simp [natsA]
            have hWv : natsA W = .sl W.length (W.map fun x : Nat => AV.int .i64 (x : Int)) := rfl
            refine awp_draw_text (by kernel_rfl) [43, 45] [(.fn (.func 79) [] [], [natsA W, .int .i64 a], .int .i64 j), (.fn (.func 85) [] [], [natsA (W.drop j)], natsA (W.drop j))] (by kernel_rfl) (by kernel_rfl) (by simp; exact ⟨PureV.of ci, PureV.of cc⟩) ?_
            rw [hWv] at z5
            have htk : List.take (W.length - j) (List.drop j (W.map fun x : Nat => AV.int .i64 (x : Int))) = List.drop j (W.map fun x : Nat => AV.int .i64 (x : Int)) := List.take_of_length_le (by simp)
            have hjI : (j : Int) ≤ (W.length : Int) := by omega
            have y8q : ∀ off, cellsAt h7 b8 off = some (([.bool false] : List AV).drop off) := z8
            rw [hdv, hWv]
            simp [z5, z3, y8q, htk, hjI, gamGet_here, gamGet_cons]
            have z8' := z8.put (b' := b3) (c := .cells [.sl (W.length - j) (List.drop j (W.map fun x : Nat => AV.int .i64 (x : Int)))]) (by simp [g8])
            rw [z8'.self]
            refine fail _ (some ow) (K5.put (by simp)) (by rw [hG2]) ?_
            rw [hG2]
            show Holds _ b3 [natsA (W.drop j)]
            rw [hdv]
            exact Holds.here
        · simp [x4c, xSc, har, hsn]
          by_cases e0 : y = 0
          · have hy1 : g.d.st.getD a 0 = 0 := by omega
            obtain ⟨v, hv⟩ : ∃ v, v = visitF (goodF r) (fun n => moveL r n joint) k g.d a := ⟨_, rfl⟩
            have hwl : ∀ i, i + 1 = g.d.way.length → a ∈ moveL r (g.d.way.getD i 0) joint := by
              intro i hi
              rw [hQ1.way] at hi ⊢
              simp at hi
              subst hi
              have := List.mem_of_getElem? ha
              simpa using this
            have hzz : zeros g.d ≤ k := by have := hQ1.zz; omega
            have cv := w_visit r hr joint S hS ⟨b1, b2, b3, b4, b5, b6, bj, bR, bS⟩ k g.d a o2 hh V hQ1.pi har hga hy1 hzz hwl
            have hvok := visit_ok hSl hcl k g.d a hQ1.pi har hga hy1 hzz hwl
            rw [← hv] at cv hvok
            simp [x6c, e0]
            refine ACalls.mono cv ?_
            rintro _ h6 ⟨rfl, o3, K3, hV3, hR3⟩
            have K4' := K.trans K3
            have hk7' := K4'.keep b7 (by have := w7b 0; intro q; simp [cellsAt, q] at this) (by simp [g7, BK.mut]) (by simpa using fun e => g9 e)
            have hk8' := K4'.keep b8 m8'.ne (by simp [g8, BK.mut]) (by simpa using fun e => g10 e)
            have y7' : ∀ off, cellsAt h6 b7 off = some (([.int .i64 n] : List AV).drop off) := m7'.eq hk7'
            have y8' : Holds h6 b8 [.bool false] := m8'.eq hk8'
            have y8s : ∀ off, cellsAt h6 b8 off = some (([.bool false] : List AV).drop off) := y8'
            cases hvk : v.ok with
            | true =>
              have D := hvok.1 hvk
              have V3 := hV3 hvk
              have hG2 : G = ⟨⟨v.d.st, v.d.way, upN v.d.rank n (IntKind.i64.wrap (v.d.rank.getD a 0 + 1))⟩, true, v.round⟩ := by rw [hG, stepV, if_neg hgn, if_neg (by omega), if_pos hy1, ← hv, if_pos hvk]
              have hrl3 := D.pi.rl
              obtain ⟨x', hx'⟩ : ∃ x, x = v.d.rank.getD n 0 := ⟨_, rfl⟩
              have hrn' : v.d.rank[n]? = some x' := by rw [hx']; simp [show n < v.d.rank.length from by omega]
              obtain ⟨z, hz0⟩ : ∃ z, z = v.d.rank.getD a 0 := ⟨_, rfl⟩
              have hra : v.d.rank[a]? = some z := by rw [hz0]; simp [show a < v.d.rank.length from by omega]
              have x1d : ∀ off, cellsAt h6 b1 off = some (([.ptr bj 0] : List AV).drop off) := V3.e1
              have x2d : ∀ off, cellsAt h6 b2 off = some (([.osl bR 0 S 1] : List AV).drop off) := V3.e2
              have x3d : ∀ off, cellsAt h6 b3 off = some (([.nilsl] : List AV).drop off) := V3.e3
              have x4d : ∀ off, cellsAt h6 b4 off = some (([.osl bS 0 S 1] : List AV).drop off) := V3.e4
              have x5d : ∀ off, cellsAt h6 b5 off = some (([ownV o3 v.d.way.length 1] : List AV).drop off) := V3.e5
              have x6d : ∀ off, cellsAt h6 b6 off = some (([.fn (.func 84) [] [.ptr b4 0, .ptr b5 0, .ptr b1 0, .ptr b2 0, .ptr b3 0, .ptr b6 0]] : List AV).drop off) := V3.e6
              have xRd := V3.eR
              have xSd := V3.eS
              have xjd := jcell V3.j
              unfold Holds at xRd xSd
              simp
              refine awp_draw_text (by kernel_rfl) [] [] (by kernel_rfl) (by kernel_rfl) (by simp) ?_
              simp [x2d, y7', xRd, hn, hn1, hrn', hra, har]
              refine ⟨by omega, ?_⟩
              rw [hspR _ _ (by omega)]
              refine fin _ o3 (K4'.put (by simp [BK.mut])) (by rw [hG2]) ?_
              rw [hG2, upN, ← hx', ← hz0]
              exact V3.setR _
            | false =>
              have hG2 : G = v := by rw [hG, stepV, if_neg hgn, if_neg (by omega), if_pos hy1, ← hv, if_neg (by rw [hvk]; simp)]
              simp [y8s, y8'.self]
              exact fail h6 o3 K4' (by rw [hG2]; exact hvk) (by rw [hG2]; exact hR3 hvk)
          · have e0I : ¬ (y : Int) = 0 := by omega
            simp [e0, e0I]
            have hy1 : ¬ g.d.st.getD a 0 = 1 := by omega
            have hy0 : ¬ g.d.st.getD a 0 = 0 := by omega
            have hG2 : G = ⟨⟨g.d.st, g.d.way, upN g.d.rank n (IntKind.i64.wrap (g.d.rank.getD a 0 + 1))⟩, g.ok, g.round⟩ := by rw [hG, stepV, if_neg hgn, if_neg hy1, if_neg hy0]
            obtain ⟨z, hz0⟩ : ∃ z, z = g.d.rank.getD a 0 := ⟨_, rfl⟩
            have hra : g.d.rank[a]? = some z := by rw [hz0]; simp [show a < g.d.rank.length from by omega]
            refine awp_draw_text (by kernel_rfl) [] [] (by kernel_rfl) (by kernel_rfl) (by simp) ?_
            simp [x2c, y7, xRc, hn, hn1, hrn, hra, har]
            refine ⟨by omega, ?_⟩
            rw [hspR _ _ (by omega)]
            refine fin _ o2 (K.put (by simp)) (by rw [hG2]; exact hg) ?_
            rw [hG2, upN, ← hx, ← hz0]
            exact V.setR _
    · intro g e he
      cases hg : g.ok with
      | true => rw [hg] at he; simp at he
      | false => rw [hg] at he; simp at he; exact .inl he.symm
    · rintro h' ⟨o2, K, hV, hR, _⟩
      have hgo : (fun g : VS => (if g.ok = true then none else some Exit.ret : Option Exit).isNone) = fun g => g.ok := by funext g; cases g.ok <;> rfl
      obtain ⟨Lp, hQ, hLp⟩ := runIt_inv (step := stepV (goodF r) (visitF (goodF r) (fun n => moveL r n joint) k) n) (go := fun g => g.ok) (QV (goodF r) (fun n => moveL r n joint) S d n) (moveL r n joint) (fun g Lp t ht hg q => step_ok hSl hcl (visit_ok hSl hcl k) P h0 hz g Lp t ht hg q) (moveL r n joint) [] ⟨pushD d n, true, []⟩ rfl rfl (push_ok P hn hb h0 hw)
      have hvf : visitF (goodF r) (fun n => moveL r n joint) (k + 1) d n = if (runIt (stepV (goodF r) (visitF (goodF r) (fun n => moveL r n joint) k) n) (fun g => g.ok) ⟨pushD d n, true, []⟩ (moveL r n joint)).ok = true then ⟨popD (runIt (stepV (goodF r) (visitF (goodF r) (fun n => moveL r n joint) k) n) (fun g => g.ok) ⟨pushD d n, true, []⟩ (moveL r n joint)).d n, true, (runIt (stepV (goodF r) (visitF (goodF r) (fun n => moveL r n joint) k) n) (fun g => g.ok) ⟨pushD d n, true, []⟩ (moveL r n joint)).round⟩ else runIt (stepV (goodF r) (visitF (goodF r) (fun n => moveL r n joint) k) n) (fun g => g.ok) ⟨pushD d n, true, []⟩ (moveL r n joint) := rfl
      rw [hgo] at hV hR ⊢
      rw [hvf]
      obtain ⟨g, hge⟩ : ∃ g, g = runIt (stepV (goodF r) (visitF (goodF r) (fun n => moveL r n joint) k) n) (fun g => g.ok) ⟨pushD d n, true, []⟩ (moveL r n joint) := ⟨_, rfl⟩
      rw [← hge] at hV hR hQ hLp ⊢
      have hk7 := K.keep b7 (by have := w7b 0; intro q; simp [cellsAt, q] at this) (by simp [g7]) (by simpa using fun e => g9 e)
      have hk8 := K.keep b8 m8'.ne (by simp [g8]) (by simpa using fun e => g10 e)
      have y7 : ∀ off, cellsAt h' b7 off = some (([.int .i64 n] : List AV).drop off) := m7'.eq hk7
      have y8h : Holds h' b8 [.bool false] := m8'.eq hk8
      have y8 : ∀ off, cellsAt h' b8 off = some (([.bool false] : List AV).drop off) := y8h
      have K6 := K4.trans K
      cases hg : g.ok with
      | true =>
        have V := hV hg
        rw [hLp hg] at hQ
        have Q := hQ.1 hg
        obtain ⟨ow, rfl⟩ : ∃ ow, o2 = some ow := by
          cases o2 with
          | some ow => exact ⟨ow, rfl⟩
          | none => have := V.en rfl; rw [Q.way] at this; simp at this
        have hsl := Q.pi.sl
        have hwlen : g.d.way.length = d.way.length + 1 := by rw [Q.way]; simp
        have hspS : splice (u8C g.d.st) n [.int .u8 2] = u8C (g.d.st.set n 2) := by
          rw [splice_one (by simp [u8C]; omega), u8C, u8C, List.map_set]; rfl
        have hulS : (u8C g.d.st).length = S := by simp [u8C, hsl]
        have x1e : ∀ off, cellsAt h' b1 off = some (([.ptr bj 0] : List AV).drop off) := V.e1
        have x2e : ∀ off, cellsAt h' b2 off = some (([.osl bR 0 S 1] : List AV).drop off) := V.e2
        have x3e : ∀ off, cellsAt h' b3 off = some (([.nilsl] : List AV).drop off) := V.e3
        have x4e : ∀ off, cellsAt h' b4 off = some (([.osl bS 0 S 1] : List AV).drop off) := V.e4
        have x5e : ∀ off, cellsAt h' b5 off = some (([ownV (some ow) g.d.way.length 1] : List AV).drop off) := V.e5
        have x6e : ∀ off, cellsAt h' b6 off = some (([.fn (.func 84) [] [.ptr b4 0, .ptr b5 0, .ptr b1 0, .ptr b2 0, .ptr b3 0, .ptr b6 0]] : List AV).drop off) := V.e6
        have xRe := V.eR
        have xSe := V.eS
        have xje := jcell V.j
        unfold Holds at xRe xSe
        have hwrw : IntKind.i64.wrap (d.way.length : Int) = d.way.length := wrap_i64 (by omega) (by omega)
        have hw1 : (d.way.length : Int) ≤ (d.way.length : Int) + 1 := by omega
        simp [x4e, x5e, y7, y8, xSe, hn, hn1, hspS, hulS, nd, g7, g8, hwlen, hwrw, hw1]
        have hof := V.no ow rfl
        have ho8 : ¬ ow = b8 := by
          rcases K.new with q | ⟨y2, q1, q2⟩
          · cases q; exact fun e => g10 e
          · cases q1; intro e; rw [e] at q2; exact m8'.ne q2
        have hoS : ¬ ow = bS := fun e => hof (by rw [e]; simp [BK.fix])
        have ho5 : ¬ ow = b5 := fun e => hof (by rw [e]; simp [BK.fix])
        have Vp := (V.setS (g.d.st.set n 2)).pop
        simp only [hwlen, Nat.add_sub_cancel] at Vp
        have hnt : natC g.d.way.dropLast = (natC g.d.way).take d.way.length := by
          rw [Q.way]; simp [natC]
        refine finA_self ⟨(((h'.upd bS (.cells (u8C (g.d.st.set n 2)))).upd b5 (.cells [.osl ow 0 d.way.length 1])).upd b8 (.cells [.bool true])).upd ow (.cells (natC g.d.way.dropLast)), fun b => ?_, rfl, some ow, ?_, fun _ => ?_, (fun e => by cases e)⟩
        · by_cases e : b = ow
          · subst e
            right
            refine ⟨natC g.d.way, d.way.length, ?_, by rw [AHeap.upd_same, hnt]⟩
            rw [AHeap.upd_ne ho8, AHeap.upd_ne ho5, AHeap.upd_ne hoS]
            exact (V.ew b rfl).at
          · left; exact AHeap.upd_ne e
        · exact (((K6.put (b := bS) (by simp [BK.mut])).put (b := b5) (by simp [BK.mut])).loose (b := b8) hb8').own (V.noM ow rfl)
        · refine Vp.of (fun b hb => ?_) (fun b hb => ?_)
          · have e8 : ¬ b = b8 := by
              simp only [BK.fix, List.mem_cons, List.not_mem_nil, or_false] at hb
              intro e
              rcases hb with q | q | q | q | q | q | q | q | q <;> (rw [e] at q; simp [q] at g8)
            by_cases e : b = ow
            · subst e; rw [AHeap.upd_same, AHeap.upd_same]
            · rw [AHeap.upd_ne e, AHeap.upd_ne e, AHeap.upd_ne e8]
          · cases hb; rw [AHeap.upd_same, AHeap.upd_same]
      | false =>
        simp [y8]
        refine finA_self ⟨h', SubT.refl _, by rw [hg], o2, K6, (fun e => by rw [hg] at e; cases e), fun _ => hR hg⟩
end Go.Proofs

end
