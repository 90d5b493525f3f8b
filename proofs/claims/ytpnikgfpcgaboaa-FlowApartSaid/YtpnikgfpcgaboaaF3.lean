/-
  Texts: FlP1 FlP2 FlP3 FlP4.
-/
import Derived.Test.YtpnikgfpcgaboaaTy
set_option linter.unusedSimpArgs false
set_option linter.unusedVariables false
set_option linter.unusedSectionVars false
section
/-
  Flow: what is left of capacities; cuts; levels (plain, no program in sight).
-/
namespace Go.Proofs
open Go

/-! ### Sums -/
def sm (g : Nat → Int) : Nat → Int
  | 0 => 0
  | n + 1 => sm g n + g n
theorem sm_congr {g h : Nat → Int} : ∀ {n : Nat}, (∀ j, j < n → g j = h j) → sm g n = sm h n
  | 0, _ => rfl
  | n + 1, e => by
    unfold sm
    rw [sm_congr fun j hj => e j (by omega), e n (by omega)]
theorem sm_add (g h : Nat → Int) : ∀ n : Nat, sm (fun j => g j + h j) n = sm g n + sm h n
  | 0 => rfl
  | n + 1 => by
    unfold sm
    rw [sm_add g h n]; omega
theorem sm_sub (g h : Nat → Int) : ∀ n : Nat, sm (fun j => g j - h j) n = sm g n - sm h n
  | 0 => rfl
  | n + 1 => by
    unfold sm
    rw [sm_sub g h n]; omega
theorem sm_zero : ∀ n : Nat, sm (fun _ => 0) n = 0
  | 0 => rfl
  | n + 1 => by
    unfold sm
    rw [sm_zero n]; rfl
theorem sm_nonneg {g : Nat → Int} : ∀ {n : Nat}, (∀ j, j < n → 0 ≤ g j) → 0 ≤ sm g n
  | 0, _ => Int.le_refl 0
  | n + 1, e => by
    unfold sm
    have := sm_nonneg (g := g) (n := n) fun j hj => e j (by omega)
    have := e n (by omega)
    omega
theorem sm_le {g : Nat → Int} {M : Int} : ∀ {n : Nat}, (∀ j, j < n → g j ≤ M) → sm g n ≤ n * M
  | 0, _ => by simp [sm]
  | n + 1, e => by
    unfold sm
    have h1 := sm_le (g := g) (n := n) fun j hj => e j (by omega)
    have := e n (by omega)
    have h3 : ((n + 1 : Nat) : Int) * M = (n : Int) * M + M := by rw [show ((n + 1 : Nat) : Int) = (n : Int) + 1 from by omega, Int.add_mul]; omega
    omega
/-- A sum of what is not negative is nothing just if each is. -/
theorem sm_eq_zero {g : Nat → Int} : ∀ {n : Nat}, (∀ j, j < n → 0 ≤ g j) → sm g n = 0 → ∀ j, j < n → g j = 0
  | 0, _, _ => fun j hj => absurd hj (by omega)
  | n + 1, e, s => fun j hj => by
    unfold sm at s
    have h1 := sm_nonneg (g := g) (n := n) fun j hj => e j (by omega)
    have h2 := e n (by omega)
    by_cases q : j = n
    · subst q; omega
    · exact sm_eq_zero (n := n) (fun j hj => e j (by omega)) (by omega) j (by omega)
theorem sm_swap (g : Nat → Nat → Int) (m : Nat) : ∀ P : Nat, sm (fun p => sm (fun j => g p j) m) P = sm (fun j => sm (fun p => g p j) P) m
  | 0 => by simp only [sm]; exact (sm_zero m).symm
  | P + 1 => by
    simp only [sm]
    rw [sm_swap g m P, ← sm_add]
theorem sm_one (a : Nat) (x : Int) : ∀ P : Nat, sm (fun p => if a = p then x else 0) P = if a < P then x else 0
  | 0 => by simp [sm]
  | P + 1 => by
    simp only [sm]
    rw [sm_one a x P]
    by_cases q : a = P
    · subst q; simp
    · by_cases q2 : a < P
      · rw [if_pos q2, if_neg q, if_pos (by omega)]; omega
      · rw [if_neg q2, if_neg q, if_neg (by omega)]; omega

/-! ### Sources -/
structure Sr where
  P : Nat
  m : Nat
  A : Nat → Nat
  B : Nat → Nat
  C : Nat → Int
  D : Nat → Int
structure Sr.Ok (S : Sr) : Prop where
  a : ∀ j, j < S.m → S.A j < S.P
  b : ∀ j, j < S.m → S.B j < S.P
  ne : ∀ j, j < S.m → S.A j ≠ S.B j
  c : ∀ j, j < S.m → 0 ≤ S.C j ∧ S.C j ≤ 1000000000
  d : ∀ j, j < S.m → 0 ≤ S.D j ∧ S.D j ≤ 1000000000
def Sr.tl (S : Sr) (k : Nat) : Nat := if k % 2 = 0 then S.A (k / 2) else S.B (k / 2)
def Sr.hd (S : Sr) (k : Nat) : Nat := if k % 2 = 0 then S.B (k / 2) else S.A (k / 2)
def Sr.cap0 (S : Sr) (k : Nat) : Int := if k % 2 = 0 then S.C (k / 2) else S.D (k / 2)
def pr (k : Nat) : Nat := if k % 2 = 0 then k + 1 else k - 1
def fl (S : Sr) (left : Nat → Int) (j : Nat) : Int := S.C j - left (2 * j)
def exc (S : Sr) (left : Nat → Int) (p : Nat) : Int := sm (fun j => (if S.A j = p then fl S left j else 0) - (if S.B j = p then fl S left j else 0)) S.m
structure Left (S : Sr) (left : Nat → Int) : Prop where
  pos : ∀ k, k < 2 * S.m → 0 ≤ left k
  sum : ∀ j, j < S.m → left (2 * j) + left (2 * j + 1) = S.C j + S.D j
/-- A flow of a value. -/
structure Fl (S : Sr) (s t : Nat) (left : Nat → Int) (v : Int) : Prop extends Left S left where
  ex : ∀ p, exc S left p = (if s = p then v else 0) - (if t = p then v else 0)
def cap (S : Sr) (In : Nat → Bool) : Int := sm (fun j => (if (In (S.A j) && !In (S.B j)) = true then S.C j else 0) + (if (In (S.B j) && !In (S.A j)) = true then S.D j else 0)) S.m
def Closed (S : Sr) (left : Nat → Int) (In : Nat → Bool) : Prop := ∀ k, k < 2 * S.m → In (S.tl k) = true → 0 < left k → In (S.hd k) = true

variable {S : Sr} {s t : Nat} {left : Nat → Int} {v : Int}
theorem fl0 (ok : S.Ok) : Fl S s t S.cap0 0 where
  pos := fun k hk => by
    unfold Sr.cap0
    split
    · exact (ok.c (k / 2) (by omega)).1
    · exact (ok.d (k / 2) (by omega)).1
  sum := fun j hj => by
    unfold Sr.cap0
    rw [if_pos (by omega), if_neg (by omega), show 2 * j / 2 = j from by omega, show (2 * j + 1) / 2 = j from by omega]
  ex := fun p => by
    unfold exc fl Sr.cap0
    rw [show (if s = p then (0 : Int) else 0) - (if t = p then 0 else 0) = 0 from by split <;> split <;> rfl]
    refine (sm_congr (h := fun _ => 0) fun j _ => ?_).trans (sm_zero _)
    have e0 : S.C j - (if 2 * j % 2 = 0 then S.C (2 * j / 2) else S.D (2 * j / 2)) = 0 := by
      rw [if_pos (by omega), show 2 * j / 2 = j from by omega]; omega
    rw [e0]
    split <;> split <;> rfl
theorem cut_res (ok : S.Ok) (F : Fl S s t left v) (hs : s < S.P) {In : Nat → Bool} (is : In s = true) (it : In t = false) :
    cap S In - v = sm (fun j => (if (In (S.A j) && !In (S.B j)) = true then left (2 * j) else 0) + (if (In (S.B j) && !In (S.A j)) = true then left (2 * j + 1) else 0)) S.m := by
  have h1 : sm (fun p => if In p = true then exc S left p else 0) S.P = v := by
    rw [sm_congr (h := fun p => if s = p then v else 0) fun p _ => ?_]
    · rw [sm_one, if_pos hs]
    · show (if In p = true then exc S left p else 0) = if s = p then v else 0
      rw [F.ex p]
      by_cases q : s = p
      · subst q
        have : ¬ t = s := fun e => by rw [e, is] at it; cases it
        simp [is, this]
      · by_cases q2 : t = p
        · subst q2; simp [it, q]
        · simp [q, q2]
  have h2 : sm (fun p => if In p = true then exc S left p else 0) S.P = sm (fun j => (if In (S.A j) = true then fl S left j else 0) - (if In (S.B j) = true then fl S left j else 0)) S.m := by
    rw [sm_congr (h := fun p => sm (fun j => if In p = true then (if S.A j = p then fl S left j else 0) - (if S.B j = p then fl S left j else 0) else 0) S.m) fun p _ => ?_]
    · rw [sm_swap]
      refine sm_congr fun j hj => ?_
      rw [sm_congr (h := fun p => (if S.A j = p then (if In (S.A j) = true then fl S left j else 0) else 0) - (if S.B j = p then (if In (S.B j) = true then fl S left j else 0) else 0)) fun p _ => ?_]
      · rw [sm_sub, sm_one, sm_one, if_pos (ok.a j hj), if_pos (ok.b j hj)]
      · show (if In p = true then (if S.A j = p then fl S left j else 0) - (if S.B j = p then fl S left j else 0) else 0) = _
        by_cases q : S.A j = p
        · by_cases q2 : S.B j = p
          · subst q; simp [q2]
          · subst q; by_cases i : In (S.A j) = true <;> simp [i, q2]
        · by_cases q2 : S.B j = p
          · subst q2; by_cases i : In (S.B j) = true <;> simp [i, q]
          · simp [q, q2]
    · show (if In p = true then exc S left p else 0) = _
      by_cases i : In p = true
      · simp only [i, if_true]; rfl
      · simp only [i]; exact (sm_zero _).symm
  rw [← h1, h2]
  unfold cap
  rw [← sm_sub]
  refine sm_congr fun j hj => ?_
  have := F.sum j hj
  unfold fl
  by_cases i : In (S.A j) = true <;> by_cases i2 : In (S.B j) = true <;> simp [i, i2] <;> omega
theorem res_nonneg (F : Left S left) (In : Nat → Bool) : ∀ j, j < S.m → 0 ≤ (if (In (S.A j) && !In (S.B j)) = true then left (2 * j) else 0) + (if (In (S.B j) && !In (S.A j)) = true then left (2 * j + 1) else 0) := fun j hj => by
  have h1 := F.pos (2 * j) (by omega)
  have h2 := F.pos (2 * j + 1) (by omega)
  split <;> split <;> omega
theorem cut_le (ok : S.Ok) (F : Fl S s t left v) (hs : s < S.P) {In : Nat → Bool} (is : In s = true) (it : In t = false) : v ≤ cap S In := by
  have h1 := cut_res ok F hs is it
  have h2 := sm_nonneg (res_nonneg F.toLeft In)
  omega
theorem cut_closed (ok : S.Ok) (F : Fl S s t left v) (hs : s < S.P) {In : Nat → Bool} (is : In s = true) (it : In t = false) : cap S In = v ↔ Closed S left In := by
  have h1 := cut_res ok F hs is it
  constructor
  · intro e k hk ik lk
    have h3 := sm_eq_zero (res_nonneg F.toLeft In) (by omega) (k / 2) (by omega)
    have p1 := F.pos (2 * (k / 2)) (by omega)
    have p2 := F.pos (2 * (k / 2) + 1) (by omega)
    unfold Sr.tl at ik
    unfold Sr.hd
    by_cases q : k % 2 = 0
    · rw [if_pos q] at ik ⊢
      have hk2 : 2 * (k / 2) = k := by omega
      rw [hk2] at h3 p1 p2
      by_cases i2 : In (S.B (k / 2)) = true
      · exact i2
      · simp [ik, i2] at h3; omega
    · rw [if_neg q] at ik ⊢
      have hk2 : 2 * (k / 2) + 1 = k := by omega
      rw [hk2] at h3 p2
      by_cases i2 : In (S.A (k / 2)) = true
      · exact i2
      · simp [ik, i2] at h3; omega
  · intro cl
    have : cap S In - v = 0 := by
      rw [h1]
      refine (sm_congr (h := fun _ => 0) fun j hj => ?_).trans (sm_zero _)
      have p1 := F.pos (2 * j) (by omega)
      have p2 := F.pos (2 * j + 1) (by omega)
      have c1 := cl (2 * j) (by omega)
      have c2 := cl (2 * j + 1) (by omega)
      unfold Sr.tl Sr.hd at c1 c2
      rw [if_pos (by omega), if_pos (by omega), show 2 * j / 2 = j from by omega] at c1
      rw [if_neg (by omega), if_neg (by omega), show (2 * j + 1) / 2 = j from by omega] at c2
      cases i : In (S.A j) <;> cases i2 : In (S.B j) <;> simp [i, i2] at c1 c2 ⊢ <;> omega
    omega
/-- What can leave the source. -/
theorem val_le (ok : S.Ok) (F : Fl S s t left v) (hs : s < S.P) (hst : s ≠ t) : v ≤ S.m * 2000000000 := by
  have h1 := cut_le ok F hs (In := fun p => p == s) (by simp) (by simp; exact fun e => hst e.symm)
  refine Int.le_trans h1 ?_
  unfold cap
  refine sm_le fun j hj => ?_
  have h1 := ok.c j hj
  have h2 := ok.d j hj
  split <;> split <;> omega
theorem left_le (ok : S.Ok) (F : Left S left) {k : Nat} (hk : k < 2 * S.m) : 0 ≤ left k ∧ left k ≤ 2000000000 := by
  have h1 := F.pos k hk
  have h2 := F.sum (k / 2) (by omega)
  have h3 := ok.c (k / 2) (by omega)
  have h4 := ok.d (k / 2) (by omega)
  have h5 := F.pos (2 * (k / 2)) (by omega)
  have h6 := F.pos (2 * (k / 2) + 1) (by omega)
  rcases Nat.mod_two_eq_zero_or_one k with q | q
  · rw [show 2 * (k / 2) = k from by omega] at h2 h5 h6; omega
  · rw [show 2 * (k / 2) + 1 = k from by omega] at h2 h6; omega

/-! ### Levels -/
structure Lv (S : Sr) (s : Nat) (left : Nat → Int) (lv : Nat → Int) : Prop where
  s0 : lv s = 0
  low : ∀ p, p < S.P → -1 ≤ lv p
  step : ∀ k, k < 2 * S.m → 0 < left k → 0 ≤ lv (S.tl k) → 0 ≤ lv (S.hd k)
  back : ∀ p, p < S.P → p ≠ s → 0 ≤ lv p → ∃ k, k < 2 * S.m ∧ 0 < left k ∧ S.hd k = p ∧ 0 ≤ lv (S.tl k) ∧ lv p = lv (S.tl k) + 1
theorem tl_lt (ok : S.Ok) {k : Nat} (hk : k < 2 * S.m) : S.tl k < S.P := by
  unfold Sr.tl; split
  · exact ok.a _ (by omega)
  · exact ok.b _ (by omega)
theorem hd_lt (ok : S.Ok) {k : Nat} (hk : k < 2 * S.m) : S.hd k < S.P := by
  unfold Sr.hd; split
  · exact ok.b _ (by omega)
  · exact ok.a _ (by omega)
theorem Lv.ind (ok : S.Ok) {lv : Nat → Int} (L : Lv S s left lv) {D : Nat → Prop} (hs : D s)
    (hd : ∀ k, k < 2 * S.m → 0 < left k → D (S.tl k) → 0 ≤ lv (S.tl k) → lv (S.hd k) = lv (S.tl k) + 1 → D (S.hd k)) : ∀ (n p : Nat), p < S.P → lv p = n → D p
  | n, p, hp, e => by
    by_cases q : p = s
    · rw [q]; exact hs
    · obtain ⟨k, k1, k2, k3, k4, k5⟩ := L.back p hp q (by omega)
      have := Lv.ind ok L hs hd (n - 1) (S.tl k) (tl_lt ok k1) (by omega)
      have := hd k k1 k2 this k4 (by rw [k3]; exact k5)
      rwa [k3] at this
  termination_by n => n
  decreasing_by omega
theorem Lv.min (ok : S.Ok) {lv : Nat → Int} (L : Lv S s left lv) {In : Nat → Bool} (hs : In s = true) (cl : Closed S left In) {p : Nat} (hp : p < S.P) (e : 0 ≤ lv p) : In p = true :=
  L.ind ok (D := fun p => In p = true) hs (fun k k1 k2 k3 _ _ => cl k k1 k3 k2) (lv p).toNat p hp (by omega)
theorem Lv.closed {lv : Nat → Int} (L : Lv S s left lv) : Closed S left fun p => decide (0 ≤ lv p) := fun k hk i l => by
  simp at i ⊢
  exact L.step k hk l i
/-- Behind the last push: the value is the capacity of what can be reached, and of no less set. -/
theorem most_cut (ok : S.Ok) {lv : Nat → Int} (F : Fl S s t left v) (hs : s < S.P) (L : Lv S s left lv) (ht : lv t < 0) :
    cap S (fun p => decide (0 ≤ lv p)) = v ∧ ∀ In : Nat → Bool, In s = true → In t = false → v ≤ cap S In ∧ (cap S In = v → ∀ p, p < S.P → 0 ≤ lv p → In p = true) := by
  refine ⟨(cut_closed ok F hs (by simp [L.s0]) (by simp; omega)).2 L.closed, fun In i1 i2 => ⟨cut_le ok F hs i1 i2, fun e p hp h => ?_⟩⟩
  exact L.min ok i1 ((cut_closed ok F hs i1 i2).1 e) hp h

/-! ### A step -/
def upf {α : Type} (f : Nat → α) (k : Nat) (x : α) : Nat → α := fun i => if i = k then x else f i
def aug (left : Nat → Int) (k : Nat) (x : Int) : Nat → Int := upf (upf left k (left k - x)) (pr k) (left (pr k) + x)
theorem sm_upd {g h : Nat → Int} {i : Nat} {x : Int} : ∀ {n : Nat}, i < n → (∀ j, j < n → j ≠ i → h j = g j) → h i = g i + x → sm h n = sm g n + x
  | 0, hi, _, _ => absurd hi (by omega)
  | n + 1, hi, e, e' => by
    unfold sm
    by_cases q : i = n
    · subst q
      rw [sm_congr (g := h) (h := g) fun j hj => e j (by omega) (by omega), e']; omega
    · rw [sm_upd (n := n) (by omega) (fun j hj => e j (by omega)) e', e n (by omega) (by omega)]; omega
theorem aug_left {k : Nat} {x : Int} (hk : k < 2 * S.m) (F : Left S left) (hx : 0 ≤ x) (hl : x ≤ left k) : Left S (aug left k x) where
  pos := fun i hi => by
    have := F.pos i hi
    unfold aug upf
    split
    · next e => subst e; omega
    · split
      · next e => subst e; omega
      · omega
  sum := fun j hj => by
    have := F.sum j hj
    unfold aug upf pr
    rcases Nat.mod_two_eq_zero_or_one k with q | q
    · by_cases e : 2 * j = k
      · subst e; simp [q]; omega
      · rw [if_pos q, if_neg (by omega), if_neg (by omega), if_neg (by omega), if_neg (by omega)]; exact this
    · have q' : ¬ k % 2 = 0 := by omega
      by_cases e : 2 * j + 1 = k
      · subst e; simp; omega
      · rw [if_neg q', if_neg (by omega), if_neg (by omega), if_neg (by omega), if_neg (by omega)]; exact this
theorem aug_exc (ok : S.Ok) {k : Nat} {x : Int} (hk : k < 2 * S.m) (p : Nat) : exc S (aug left k x) p = exc S left p + ((if S.tl k = p then x else 0) - (if S.hd k = p then x else 0)) := by
  unfold exc
  have ne := ok.ne (k / 2) (by omega)
  refine sm_upd (i := k / 2) (by omega) (fun j hj hne => ?_) ?_
  · have : fl S (aug left k x) j = fl S left j := by
      unfold fl aug upf pr
      rcases Nat.mod_two_eq_zero_or_one k with q | q
      · simp only [q, if_true]
        rw [if_neg (show ¬ 2 * j = k + 1 by omega), if_neg (show ¬ 2 * j = k by omega)]
      · have q' : ¬ k % 2 = 0 := by omega
        simp only [q', if_false]
        rw [if_neg (show ¬ 2 * j = k - 1 by omega), if_neg (show ¬ 2 * j = k by omega)]
    rw [this]
  · unfold Sr.tl Sr.hd
    rcases Nat.mod_two_eq_zero_or_one k with q | q
    · have : fl S (aug left k x) (k / 2) = fl S left (k / 2) + x := by
        unfold fl aug upf pr
        simp only [q, if_true]
        rw [if_neg (show ¬ 2 * (k / 2) = k + 1 by omega), if_pos (show 2 * (k / 2) = k by omega), show 2 * (k / 2) = k from by omega]; omega
      rw [this]
      simp only [q, if_true]
      by_cases a : S.A (k / 2) = p <;> by_cases b : S.B (k / 2) = p <;> simp [a, b] <;> omega
    · have : fl S (aug left k x) (k / 2) = fl S left (k / 2) - x := by
        have q' : ¬ k % 2 = 0 := by omega
        unfold fl aug upf pr
        simp only [q', if_false]
        rw [if_pos (show 2 * (k / 2) = k - 1 by omega), show 2 * (k / 2) = k - 1 from by omega]; omega
      have q' : ¬ k % 2 = 0 := by omega
      rw [this]
      simp only [q', if_false]
      by_cases a : S.A (k / 2) = p <;> by_cases b : S.B (k / 2) = p <;> simp [a, b] <;> omega

/-! ### The arcs that begin at a place -/
def rowOf (S : Sr) (n p : Nat) : List Nat := (List.range (2 * n)).filter fun k => S.tl k == p
theorem rowOf_succ {n p : Nat} : rowOf S (n + 1) p = rowOf S n p ++ (if S.A n = p then [2 * n] else []) ++ (if S.B n = p then [2 * n + 1] else []) := by
  unfold rowOf
  rw [show 2 * (n + 1) = 2 * n + 1 + 1 from by omega, List.range_succ, List.range_succ, List.filter_append, List.filter_append]
  have e1 : S.tl (2 * n) = S.A n := by unfold Sr.tl; rw [if_pos (by omega), show 2 * n / 2 = n from by omega]
  have e2 : S.tl (2 * n + 1) = S.B n := by unfold Sr.tl; rw [if_neg (by omega), show (2 * n + 1) / 2 = n from by omega]
  congr 1
  · congr 1
    by_cases a : S.A n = p <;> simp [e1, a]
  · by_cases b : S.B n = p <;> simp [e2, b]
theorem mem_rowOf {n p k : Nat} : k ∈ rowOf S n p ↔ k < 2 * n ∧ S.tl k = p := by
  unfold rowOf; simp
end Go.Proofs

end

section
/-
  Flow: breadth first (plain).
-/
namespace Go.Proofs
open Go

theorem nodup_lt' : ∀ (N : Nat) (l : List Nat), l.Nodup → (∀ x ∈ l, x < N) → l.length ≤ N
  | 0, l, _, h => by
    cases l with
    | nil => simp
    | cons x l => exact absurd (h x (by simp)) (by omega)
  | N + 1, l, hn, h => by
    have h1 := nodup_lt' N (l.filter (fun x => x != N)) (hn.filter _) fun x hx => by
      simp at hx
      have := h x hx.1
      omega
    have h2 : l.length ≤ (l.filter (fun x => x != N)).length + 1 := by
      clear h1 h
      induction l with
      | nil => simp
      | cons x l ih =>
        rw [List.nodup_cons] at hn
        by_cases e : x = N
        · subst e
          have : l.filter (fun y => y != x) = l := List.filter_eq_self.2 fun y hy => by
            simp; rintro rfl; exact hn.1 hy
          simp [this]
        · have := ih hn.2
          simp [e]; omega
    omega

structure Bfs (S : Sr) (s : Nat) (left : Nat → Int) (i : Nat) (q : List Nat) (lv : Nat → Int) : Prop where
  nd : q.Nodup
  lt : ∀ p ∈ q, p < S.P
  mem : ∀ p, 0 ≤ lv p ↔ p ∈ q
  low : ∀ p, -1 ≤ lv p
  s0 : lv s = 0
  idx : ∀ (j p : Nat), q[j]? = some p → lv p ≤ (j : Int)
  back : ∀ p ∈ q, p ≠ s → ∃ k, k < 2 * S.m ∧ 0 < left k ∧ S.hd k = p ∧ 0 ≤ lv (S.tl k) ∧ lv p = lv (S.tl k) + 1
  step : ∀ (j p : Nat), q[j]? = some p → j < i → ∀ k, k < 2 * S.m → S.tl k = p → 0 < left k → 0 ≤ lv (S.hd k)
variable {S : Sr} {s : Nat} {left lv : Nat → Int} {i : Nat} {q : List Nat}
theorem Bfs.len (B : Bfs S s left i q lv) : q.length ≤ S.P := nodup_lt' _ _ B.nd B.lt
theorem Bfs.small (B : Bfs S s left i q lv) (p : Nat) : lv p < S.P ∨ lv p = -1 := by
  by_cases h : 0 ≤ lv p
  · left
    obtain ⟨j, hj⟩ := List.getElem?_of_mem ((B.mem p).1 h)
    have h1 := B.idx j p hj
    have h2 := B.len
    have h3 : j < q.length := by
      rcases Nat.lt_or_ge j q.length with h | h
      · exact h
      · rw [List.getElem?_eq_none h] at hj; cases hj
    omega
  · right
    have := B.low p
    omega
theorem Bfs.init (hs : s < S.P) : Bfs S s left 0 [s] (upf (fun _ => -1) s 0) where
  nd := by simp
  lt := fun p hp => by simp at hp; omega
  mem := fun p => by
    unfold upf
    by_cases e : p = s <;> simp [e]
  low := fun p => by unfold upf; simp only; split <;> omega
  s0 := by unfold upf; rw [if_pos rfl]
  idx := fun j p hj => by
    cases j with
    | zero => simp at hj; subst hj; unfold upf; rw [if_pos rfl]; omega
    | succ j => simp at hj
  back := fun p hp hne => by simp at hp; exact absurd hp hne
  step := fun j p _ h => absurd h (by omega)
theorem Bfs.add (ok : S.Ok) (B : Bfs S s left i q lv) {u k : Nat} (hu : q[i]? = some u) (hk : k < 2 * S.m) (ht : S.tl k = u) (hl : 0 < left k) (hn : lv (S.hd k) < 0) :
    Bfs S s left i (q ++ [S.hd k]) (upf lv (S.hd k) (lv u + 1)) := by
  have hnm : S.hd k ∉ q := fun h => by have := (B.mem _).2 h; omega
  have hum : u ∈ q := List.mem_of_getElem? hu
  have hu0 := (B.mem u).2 hum
  have hil : i < q.length := by
    rcases Nat.lt_or_ge i q.length with h | h
    · exact h
    · rw [List.getElem?_eq_none h] at hu; cases hu
  have ne : ∀ p, p ∈ q → upf lv (S.hd k) (lv u + 1) p = lv p := fun p hp => by
    unfold upf; rw [if_neg]; rintro rfl; exact hnm hp
  have up : ∀ p, 0 ≤ lv p → 0 ≤ upf lv (S.hd k) (lv u + 1) p := fun p hp => by
    unfold upf; split <;> omega
  refine ⟨?_, ?_, ?_, ?_, ?_, ?_, ?_, ?_⟩
  · rw [List.nodup_append]
    exact ⟨B.nd, by simp, fun a ha b hb => by simp at hb; subst hb; rintro rfl; exact hnm ha⟩
  · intro p hp
    rcases List.mem_append.1 hp with h | h
    · exact B.lt p h
    · simp at h; subst h; exact hd_lt ok hk
  · intro p
    unfold upf
    by_cases e : p = S.hd k
    · rw [if_pos e]; simp [e]; omega
    · rw [if_neg e, B.mem p]; simp [e]
  · intro p
    have := B.low p
    unfold upf; split <;> omega
  · unfold upf
    by_cases e : s = S.hd k
    · have := B.s0; rw [e] at this; omega
    · rw [if_neg e]; exact B.s0
  · intro j p hj
    by_cases e : j < q.length
    · rw [List.getElem?_append_left e] at hj
      rw [ne p (List.mem_of_getElem? hj)]; exact B.idx j p hj
    · rw [List.getElem?_append_right (by omega)] at hj
      have hj0 : j = q.length := by
        rcases Nat.lt_or_ge (j - q.length) 1 with h | h
        · omega
        · rw [List.getElem?_eq_none (by simpa using h)] at hj; cases hj
      rw [hj0] at hj; simp at hj; subst hj
      have := B.idx i u hu
      unfold upf; rw [if_pos rfl]; omega
  · intro p hp hps
    rcases List.mem_append.1 hp with h | h
    · obtain ⟨k', h1, h2, h3, h4, h5⟩ := B.back p h hps
      refine ⟨k', h1, h2, h3, up _ h4, ?_⟩
      rw [ne p h, h5, ne _ ((B.mem _).1 h4)]
    · simp at h
      subst h
      refine ⟨k, hk, hl, rfl, up _ (by rw [ht]; exact hu0), ?_⟩
      rw [ne (S.tl k) (by rw [ht]; exact hum), ht]
      unfold upf; rw [if_pos rfl]
  · intro j p hj hji k' hk' ht' hl'
    rw [List.getElem?_append_left (by omega)] at hj
    exact up _ (B.step j p hj hji k' hk' ht' hl')
theorem Bfs.next (B : Bfs S s left i q lv) {u : Nat} (hu : q[i]? = some u) (h : ∀ k, k < 2 * S.m → S.tl k = u → 0 < left k → 0 ≤ lv (S.hd k)) : Bfs S s left (i + 1) q lv := by
  refine { B with step := fun j p hj hji k hk ht hl => ?_ }
  by_cases e : j = i
  · subst e
    rw [hu] at hj; cases hj
    exact h k hk ht hl
  · exact B.step j p hj (by omega) k hk ht hl
theorem Bfs.fin (B : Bfs S s left i q lv) (h : q.length ≤ i) : Lv S s left lv where
  s0 := B.s0
  low := fun p _ => B.low p
  step := fun k hk hl ht => by
    obtain ⟨j, hj⟩ := List.getElem?_of_mem ((B.mem _).1 ht)
    have hjl : j < q.length := by
      rcases Nat.lt_or_ge j q.length with h | h
      · exact h
      · rw [List.getElem?_eq_none h] at hj; cases hj
    exact B.step j _ hj (by omega) k hk rfl hl
  back := fun p _ hne h0 => B.back p ((B.mem p).1 h0) hne
end Go.Proofs

end

section
/-
  Flow: a way that is widened (plain).
-/
namespace Go.Proofs
open Go

set_option maxRecDepth 20000 in
theorem xor_pr : ∀ k, k < 400 → k ^^^ 1 = pr k := by decide +kernel
section
variable {S : Sr} {s t : Nat} {left left' lv : Nat → Int} {next next' : Nat → Nat}
def Dead (S : Sr) (t : Nat) (next : Nat → Nat) (v : Nat) : Prop := v ≠ t ∧ (rowOf S S.m v).length ≤ next v
/-- All arcs ahead of next lead nowhere. -/
def Shut (S : Sr) (t : Nat) (lv left : Nat → Int) (next : Nat → Nat) : Prop := ∀ v, v < S.P → ∀ i, i < next v → ∀ k, (rowOf S S.m v)[i]? = some k → left k = 0 ∨ lv (S.hd k) ≠ lv v + 1 ∨ Dead S t next (S.hd k)
structure Wide (S : Sr) (t : Nat) (lv : Nat → Int) (a : Nat) (most : Int) (next : Nat → Nat) (left : Nat → Int) (x : Int) (next' : Nat → Nat) (left' : Nat → Int) : Prop where
  x0 : 0 ≤ x
  xm : x ≤ most
  lf : Left S left'
  ex : ∀ p, exc S left' p = exc S left p + ((if a = p then x else 0) - (if t = p then x else 0))
  fr : ∀ k, k < 2 * S.m → lv (S.tl k) < lv a → left' k = left k
  nx : ∀ v, lv v < lv a → next' v = next v
  mono : ∀ v, next v ≤ next' v
  zero : x = 0 → left' = left ∧ (Shut S t lv left next → Shut S t lv left next') ∧ Dead S t next' a
theorem Wide.here {most : Int} (hm : 0 < most) (hl : Left S left) : Wide S t lv t most next left most next left where
  x0 := by omega
  xm := by omega
  lf := hl
  ex := fun p => by split <;> omega
  fr := fun _ _ _ => rfl
  nx := fun _ _ => rfl
  mono := fun _ => Nat.le_refl _
  zero := fun h => by omega
/-- The arc k from a, behind what was found from its head. -/
theorem Wide.arc (ok : S.Ok) {a k : Nat} {most x : Int} {n0 n1 n2 : Nat → Nat} (hk : k < 2 * S.m) (hta : S.tl k = a) (hlv : lv (S.hd k) = lv a + 1) (hl : Left S left)
    (h0 : ∀ v, lv v < lv a → n1 v = n0 v) (h1 : ∀ v, n0 v ≤ n1 v) (hx : 0 < x) (w : Wide S t lv (S.hd k) (min most (left k)) n1 left x n2 left') :
    Wide S t lv a most n0 left x n2 (aug left' k x) := by
  have hxl := w.xm
  have e1 : left' k = left k := w.fr k hk (by rw [hta]; omega)
  refine ⟨w.x0, by omega, aug_left hk w.lf w.x0 (by omega), fun p => ?_, fun j hj hlt => ?_, fun v hv => ?_, fun v => Nat.le_trans (h1 v) (w.mono v), fun h => by omega⟩
  · rw [aug_exc ok hk, w.ex p, hta]
    split <;> split <;> split <;> omega
  · have e2 : left' j = left j := w.fr j hj (by omega)
    have ne1 : j ≠ k := by rintro rfl; rw [hta] at hlt; omega
    have ne2 : j ≠ pr k := by
      rintro rfl
      have : S.tl (pr k) = S.hd k := by
        unfold Sr.tl Sr.hd pr
        rcases Nat.mod_two_eq_zero_or_one k with q | q
        · rw [if_pos q, if_neg (by omega), if_pos q, show (k + 1) / 2 = k / 2 from by omega]
        · have q' : ¬ k % 2 = 0 := by omega
          simp only [q', if_false]
          rw [if_pos (show (k - 1) % 2 = 0 by omega), show (k - 1) / 2 = k / 2 from by omega]
      rw [this] at hlt; omega
    unfold aug upf
    rw [if_neg ne2, if_neg ne1, e2]
  · rw [w.nx v (by omega), h0 v hv]
/-- What the loop at a place keeps. -/
structure Scan (S : Sr) (t : Nat) (lv : Nat → Int) (a : Nat) (left : Nat → Int) (n0 n1 : Nat → Nat) : Prop where
  nx : ∀ v, lv v < lv a → n1 v = n0 v
  mono : ∀ v, n0 v ≤ n1 v
  shut : Shut S t lv left n0 → Shut S t lv left n1
theorem Scan.refl {a : Nat} : Scan S t lv a left next next := ⟨fun _ _ => rfl, fun _ => Nat.le_refl _, fun h => h⟩
theorem Dead.mono {n0 n1 : Nat → Nat} {v : Nat} (d : Dead S t n0 v) (h : ∀ v, n0 v ≤ n1 v) : Dead S t n1 v := ⟨d.1, Nat.le_trans d.2 (h v)⟩
theorem upf_le {n : Nat → Nat} {a : Nat} : ∀ v, n v ≤ upf n a (n a + 1) v := fun v => by
  unfold upf; split
  · next e => subst e; omega
  · omega
/-- One arc more, that leads nowhere. -/
theorem Scan.skip {a k : Nat} {n0 n1 : Nat → Nat} (c : Scan S t lv a left n0 n1) (hk : (rowOf S S.m a)[n1 a]? = some k) (h : left k = 0 ∨ lv (S.hd k) ≠ lv a + 1 ∨ Dead S t n1 (S.hd k)) : Scan S t lv a left n0 (upf n1 a (n1 a + 1)) where
  nx := fun v hv => by
    unfold upf; rw [if_neg (by rintro rfl; omega)]; exact c.nx v hv
  mono := fun v => Nat.le_trans (c.mono v) (upf_le v)
  shut := fun h0 v hv i hi k' hk' => by
    have key : ∀ i', i' < n1 v → (rowOf S S.m v)[i']? = some k' → left k' = 0 ∨ lv (S.hd k') ≠ lv v + 1 ∨ Dead S t (upf n1 a (n1 a + 1)) (S.hd k') := fun i' h1 h2 => by
      rcases c.shut h0 v hv i' h1 k' h2 with q | q | q
      · exact .inl q
      · exact .inr (.inl q)
      · exact .inr (.inr (q.mono upf_le))
    unfold upf at hi
    by_cases e : v = a
    · rw [if_pos e] at hi
      by_cases e2 : i = n1 a
      · subst e; rw [e2, hk] at hk'; cases hk'
        rcases h with q | q | q
        · exact .inl q
        · exact .inr (.inl q)
        · exact .inr (.inr (q.mono upf_le))
      · exact key i (by subst e; omega) hk'
    · rw [if_neg e] at hi
      exact key i hi hk'
theorem Scan.trans {a k : Nat} {n0 n1 n2 : Nat → Nat} {most : Int} (c : Scan S t lv a left n0 n1) (hlv : lv (S.hd k) = lv a + 1) (w : Wide S t lv (S.hd k) most n1 left 0 n2 left') : Scan S t lv a left n0 n2 ∧ n2 a = n1 a ∧ Dead S t n2 (S.hd k) :=
  ⟨⟨fun v hv => by rw [w.nx v (by omega), c.nx v hv], fun v => Nat.le_trans (c.mono v) (w.mono v), fun h => (w.zero rfl).2.1 (c.shut h)⟩, w.nx a (by omega), (w.zero rfl).2.2⟩
theorem Wide.none {a : Nat} {most : Int} {n0 n1 : Nat → Nat} (hm : 0 ≤ most) (hl : Left S left) (c : Scan S t lv a left n0 n1) (hat : a ≠ t) (hn : (rowOf S S.m a).length ≤ n1 a) : Wide S t lv a most n0 left 0 n1 left where
  x0 := Int.le_refl 0
  xm := hm
  lf := hl
  ex := fun p => by simp
  fr := fun _ _ _ => rfl
  nx := c.nx
  mono := c.mono
  zero := fun _ => ⟨rfl, c.shut, hat, hn⟩
/-- The first search of a phase finds a way. -/
theorem Wide.first (ok : S.Ok) {most : Int} (L : Lv S s left lv) (htP : t < S.P) (hlt : 0 ≤ lv t) (hL : Left S left) {x : Int} (w : Wide S t lv s most (fun _ => 0) left x next' left') : 0 < x := by
  rcases Int.lt_or_le 0 x with h | h
  · exact h
  · have hx : x = 0 := by have := w.x0; omega
    obtain ⟨_, sh, d⟩ := w.zero hx
    have sh := sh fun v _ i hi => absurd hi (by simp)
    have key := L.ind ok (D := fun p => Dead S t next' p) d (fun k hk hl ht h0 hlv => by
      have hm : k ∈ rowOf S S.m (S.tl k) := mem_rowOf.2 ⟨hk, rfl⟩
      obtain ⟨i, hi⟩ := List.getElem?_of_mem hm
      have hil : i < (rowOf S S.m (S.tl k)).length := by
        rcases Nat.lt_or_ge i (rowOf S S.m (S.tl k)).length with h | h
        · exact h
        · rw [List.getElem?_eq_none h] at hi; cases hi
      rcases sh (S.tl k) (tl_lt ok hk) i (Nat.lt_of_lt_of_le hil ht.2) k hi with q | q | q
      · omega
      · exact absurd hlv q
      · exact q) (lv t).toNat t htP (by omega)
    exact absurd rfl key.1
theorem Wide.fl {s t : Nat} {most v x : Int} {n0 n1 : Nat → Nat} (F : Fl S s t left v) (w : Wide S t lv s most n0 left x n1 left') : Fl S s t left' (v + x) :=
  { w.lf with ex := fun p => by rw [w.ex p, F.ex p]; split <;> split <;> omega }
end
end Go.Proofs

end

section
/-
  Flow: sets as numbers; the least of all cuts (plain).
-/
namespace Go.Proofs
open Go

def bitsOf (f : Nat → Bool) : Nat → Nat
  | 0 => 0
  | n + 1 => bitsOf f n + (if f n = true then 2 ^ n else 0)
theorem bitsOf_lt (f : Nat → Bool) : ∀ n, bitsOf f n < 2 ^ n
  | 0 => by simp [bitsOf]
  | n + 1 => by
    have := bitsOf_lt f n
    unfold bitsOf
    rw [Nat.pow_succ]
    split <;> omega
theorem testBit_bitsOf (f : Nat → Bool) : ∀ n p, (bitsOf f n).testBit p = (decide (p < n) && f p)
  | 0, p => by simp [bitsOf]
  | n + 1, p => by
    have hl := bitsOf_lt f n
    have ih := testBit_bitsOf f n
    unfold bitsOf
    by_cases h : f n = true
    · rw [if_pos h, Nat.add_comm]
      by_cases e : p = n
      · subst e
        rw [Nat.testBit_two_pow_add_eq, ih p]
        simp [h]
      · rcases Nat.lt_or_ge p n with e2 | e2
        · rw [Nat.testBit_two_pow_add_gt e2, ih p]
          simp [e2, show p < n + 1 by omega]
        · have h1 : 2 ^ n + bitsOf f n < 2 ^ p := by
            have : 2 ^ (n + 1) ≤ 2 ^ p := Nat.pow_le_pow_right (by omega) (by omega)
            rw [Nat.pow_succ] at this; omega
          rw [Nat.testBit_lt_two_pow h1]
          simp [show ¬ p < n + 1 by omega]
    · rw [if_neg h, Nat.add_zero, ih p]
      by_cases e : p = n
      · subst e; simp [h]
      · by_cases e2 : p < n
        · simp [e2, show p < n + 1 by omega]
        · simp [e2, show ¬ p < n + 1 by omega]
theorem and_of_sub {m s : Nat} (h : ∀ p, m.testBit p = true → s.testBit p = true) : m &&& s = m := by
  refine Nat.eq_of_testBit_eq fun p => ?_
  rw [Nat.testBit_and]
  cases e : m.testBit p with
  | false => rfl
  | true => simp [h p e]
/-- The least of all cuts, as the reference seeks it. -/
structure LeastIs (P s t : Nat) (cp : Nat → Int) (v : Int) (m : Nat) : Prop where
  v0 : 0 ≤ v
  lt : m < 2 ^ P
  ms : m.testBit s = true
  mt : m.testBit t = false
  mc : cp m = v
  all : ∀ k, k < 2 ^ P → k.testBit s = true → k.testBit t = false → v ≤ cp k ∧ (cp k = v → m &&& k = m)
structure Seek (v : Int) (m k : Nat) (best : Int) (common : Nat) : Prop where
  low : best = -1 ∨ v ≤ best
  sub : best = v → m &&& common = m
  fin : m < k → best = v ∧ common = m
variable {P s t : Nat} {cp : Nat → Int} {v best : Int} {m k common : Nat}
theorem Seek.init (L : LeastIs P s t cp v m) : Seek v m 0 (-1) 0 := ⟨.inl rfl, fun h => by have := L.v0; omega, fun h => by omega⟩
theorem Seek.out (L : LeastIs P s t cp v m) (S : Seek v m k best common) (h : ¬ (k.testBit s = true ∧ k.testBit t = false)) : Seek v m (k + 1) best common :=
  ⟨S.low, S.sub, fun hk => S.fin (by
    have : m ≠ k := by rintro rfl; exact h ⟨L.ms, L.mt⟩
    omega)⟩
theorem Seek.new (L : LeastIs P s t cp v m) (S : Seek v m k best common) (hk : k < 2 ^ P) (h1 : k.testBit s = true) (h2 : k.testBit t = false) (h : best < 0 ∨ cp k < best) : Seek v m (k + 1) (cp k) k := by
  obtain ⟨a1, a2⟩ := L.all k hk h1 h2
  refine ⟨.inr a1, a2, fun hm => ?_⟩
  have v0 := L.v0
  by_cases e : m = k
  · subst e; exact ⟨L.mc, rfl⟩
  · have := (S.fin (by omega)).1
    omega
theorem Seek.same (L : LeastIs P s t cp v m) (S : Seek v m k best common) (hk : k < 2 ^ P) (h1 : k.testBit s = true) (h2 : k.testBit t = false) (h : cp k = best) : Seek v m (k + 1) best (common &&& k) := by
  obtain ⟨a1, a2⟩ := L.all k hk h1 h2
  have key : best = v → m &&& (common &&& k) = m := fun e => by
    rw [← Nat.and_assoc, S.sub e, a2 (by omega)]
  refine ⟨.inr (by omega), key, fun hm => ?_⟩
  by_cases e : m = k
  · have hb : best = v := by rw [← h, ← e, L.mc]
    refine ⟨hb, ?_⟩
    rw [← e, Nat.and_comm]; exact S.sub hb
  · obtain ⟨b1, b2⟩ := S.fin (by omega)
    refine ⟨b1, ?_⟩
    rw [b2]; exact a2 (by omega)
theorem Seek.more (L : LeastIs P s t cp v m) (S : Seek v m k best common) (hk : k < 2 ^ P) (h1 : k.testBit s = true) (h2 : k.testBit t = false) (h3 : ¬ best < 0) (h4 : ¬ cp k < best) (h5 : cp k ≠ best) : Seek v m (k + 1) best common := by
  refine ⟨S.low, S.sub, fun hm => ?_⟩
  by_cases e : m = k
  · have := L.mc
    rw [e] at this
    have := S.low
    omega
  · exact S.fin (by omega)
theorem Seek.done (L : LeastIs P s t cp v m) (S : Seek v m (2 ^ P) best common) : best = v ∧ common = m := S.fin L.lt
end Go.Proofs

end
