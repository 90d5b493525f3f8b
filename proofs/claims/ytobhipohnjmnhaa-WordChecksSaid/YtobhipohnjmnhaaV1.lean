/-
  Texts: WdNum WdA WdCls WdRch.
-/
import Derived.Test.YtobhipohnjmnhaaTy
set_option linter.unusedSimpArgs false
set_option linter.unusedVariables false
set_option linter.unusedSectionVars false
section
/-
  Maps that number keys: what a lookup gives, what an insertion leaves.
-/
namespace Go.Proofs
open Go Go.AH
set_option linter.unusedSectionVars false

section
variable {α : Type} [DecidableEq α]
/-- Different keys among the first n, in the order in which they come. -/
def ddF (κ : Nat → α) : Nat → List α
  | 0 => []
  | n + 1 => if κ n ∈ ddF κ n then ddF κ n else ddF κ n ++ [κ n]
def ixF (D : List α) (x : α) : Nat := D.idxOf x
@[simp] theorem ixF_one {x : α} : ixF [x] x = 0 := by simp [ixF]
/-- The keys' numbers. -/
def clsF (κ : Nat → α) : Nat → List Nat
  | 0 => []
  | n + 1 => clsF κ n ++ [ixF (ddF κ (n + 1)) (κ n)]
theorem clsF_len (κ : Nat → α) (n : Nat) : (clsF κ n).length = n := by induction n <;> simp [clsF, *]
theorem ddF_le (κ : Nat → α) (n : Nat) : (ddF κ n).length ≤ n := by
  induction n with
  | zero => simp [ddF]
  | succ n ih =>
    simp only [ddF]
    split
    · omega
    · simp only [List.length_append, List.length_singleton]; omega
def numE (enc : α → AV) (D : List α) (j : Nat) : List (AV × AV) := (D.zipIdx j).map fun p => (enc p.1, .int .i64 (p.2 : Int))
theorem numE_len (enc : α → AV) (D : List α) (j : Nat) : (numE enc D j).length = D.length := by simp [numE]
theorem numE_cons (enc : α → AV) (x : α) (D : List α) (j : Nat) : numE enc (x :: D) j = (enc x, .int .i64 (j : Int)) :: numE enc D (j + 1) := by simp [numE, List.zipIdx_cons]
theorem mapGet_num (enc : α → AV) (hi : ∀ x y, enc x = enc y → x = y) (x : α) : ∀ (D : List α) (j : Nat), mapGet (numE enc D j) (enc x) = if x ∈ D then some (.int .i64 ((j + ixF D x : Nat) : Int)) else none
  | [], j => by simp [numE, mapGet]
  | y :: D, j => by
    rw [numE_cons]
    simp only [mapGet]
    by_cases e : y = x
    · subst e; simp [ixF]
    · have e1 : ¬ enc y = enc x := fun q => e (hi _ _ q)
      have e2 : ¬ x = y := fun q => e q.symm
      rw [if_neg e1, mapGet_num enc hi x D (j + 1)]
      simp only [List.mem_cons, e2, false_or]
      split
      · congr 3
        have : ixF (y :: D) x = ixF D x + 1 := by
          unfold ixF
          rw [List.idxOf_cons, cond_eq_ite, if_neg (by simpa using e)]
        omega
      · rfl
theorem mapSet_num (enc : α → AV) (hi : ∀ x y, enc x = enc y → x = y) (x : α) : ∀ (D : List α) (j : Nat), x ∉ D → mapSet (numE enc D j) (enc x) (.int .i64 ((j + D.length : Nat) : Int)) = numE enc (D ++ [x]) j
  | [], j, _ => by simp [numE, mapSet]
  | y :: D, j, hx => by
    simp only [List.mem_cons, not_or] at hx
    have e1 : ¬ enc y = enc x := fun q => hx.1 (hi _ _ q).symm
    rw [numE_cons, List.cons_append, numE_cons]
    simp only [mapSet]
    rw [if_neg e1, ← mapSet_num enc hi x D (j + 1) hx.2]
    simp only [List.length_cons]
    rw [show j + (D.length + 1) = j + 1 + D.length from by omega]
theorem idx_app_mem {D E : List α} {x : α} (h : x ∈ D) : ixF (D ++ E) x = ixF D x := by
  unfold ixF
  rw [List.idxOf_append]; simp [h]
theorem idx_app_new {D : List α} {x : α} (h : x ∉ D) : ixF (D ++ [x]) x = D.length := by
  unfold ixF
  rw [List.idxOf_append]; simp [h]
end
end Go.Proofs

end

section
/-
  Walks: small functions of the word chapter.
-/
namespace Go.Proofs
open Go Go.AH
set_option maxRecDepth 10000
set_option maxHeartbeats 4000000

def lettersF (n : Int) : Int := 1 + (IntKind.u64.wrap (IntKind.i64.wrap (n + 3))) % 4
theorem letters_bd (n : Int) : 1 ≤ lettersF n ∧ lettersF n ≤ 4 := by unfold lettersF; omega
theorem w_letters (n : Int) : Pure Try.prog 16 [.int .i64 n] (.int .i64 (lettersF n)) := by
  refine pure_of (acalls_of Try.func16 rfl Try.call16 (by kernel_rfl) (by show _ ≤ (9 : Nat); simp) ?_)
  simp
  have h1 := u64_nonneg (IntKind.i64.wrap (n + 3))
  have e : (IntKind.u64.wrap (IntKind.i64.wrap (n + 3))).tmod 4 = (IntKind.u64.wrap (IntKind.i64.wrap (n + 3))) % 4 := Int.tmod_eq_emod_of_nonneg h1.1
  rw [e, wrap_i64 (x := _ % 4) (by omega) (by omega), wrap_i64 (by omega) (by omega)]
  exact finA_self rfl

theorem w_give (l : Int) (next good : AV) (h1 : next.one = true) (h2 : good.one = true) (f1 : next.fit = true) (f2 : good.fit = true) (c1 : next.cells = [next]) (c2 : good.cells = [good]) : Pure Try.prog 17 [.agg [.int .i64 l, next, good]] (.agg [.int .i64 l, next, good]) := by
  refine pure_of (acalls_of Try.func17 rfl Try.call17 (by kernel_rfl) (by show _ ≤ (10 : Nat); simp) ?_)
  simp
  intro b hb
  simp
  intro b2 hb2
  simp at hb2
  simp [hb2, f1, f2, c1, c2]
  exact finA_self rfl

/-- An automaton as it comes in. -/
structure RAuto where
  letters : Int
  next : List (List Int)
  good : List Bool
def RAuto.av (a : RAuto) : AV := .agg [.int .i64 a.letters, rowsA a.next, boolsA a.good]
structure RAuto.sized (a : RAuto) : Prop where
  n : a.next.length ≤ 4611686018427387904
  r : ∀ r ∈ a.next, r.length ≤ 4611686018427387904
  g : a.good.length ≤ 4611686018427387904

/-- A valid automaton. -/
structure Dfa where
  k : Nat
  next : List (List Nat)
  good : List Bool
def natsA (l : List Nat) : AV := .sl l.length (l.map fun x : Nat => AV.int .i64 (x : Int))
def nrowsA (l : List (List Nat)) : AV := .sl l.length (l.map natsA)
@[simp] theorem natsA_one {l : List Nat} : (natsA l).one = true := rfl
@[simp] theorem natsA_fit {l : List Nat} : (natsA l).fit = true := rfl
@[simp] theorem natsA_cells {l : List Nat} : (natsA l).cells = [natsA l] := rfl
@[simp] theorem nrowsA_one {l : List (List Nat)} : (nrowsA l).one = true := rfl
@[simp] theorem nrowsA_fit {l : List (List Nat)} : (nrowsA l).fit = true := rfl
@[simp] theorem nrowsA_cells {l : List (List Nat)} : (nrowsA l).cells = [nrowsA l] := rfl
theorem nats_frozen {l : List Nat} : ∀ a ∈ l.map (fun x : Nat => AV.int .i64 (x : Int)), a.frozen = true := by
  intro a ha; obtain ⟨x, _, rfl⟩ := List.mem_map.1 ha; rfl
@[simp] theorem natsA_frozen {l : List Nat} : (natsA l).frozen = true := by simp only [natsA, AV.frozen]; exact frozens_iff.2 nats_frozen
theorem nrows_frozen {l : List (List Nat)} : ∀ a ∈ l.map natsA, a.frozen = true := by
  intro a ha; obtain ⟨x, _, rfl⟩ := List.mem_map.1 ha; exact natsA_frozen
@[simp] theorem nrowsA_frozen {l : List (List Nat)} : (nrowsA l).frozen = true := by simp only [nrowsA, AV.frozen]; exact frozens_iff.2 nrows_frozen
@[simp] theorem frz_nats {k : Nat} {h h' : AHeap} {l : List Nat} : frzF k h h' (natsA l) = natsA l := frz_frozen k _ natsA_frozen
@[simp] theorem frz_nrows {k : Nat} {h h' : AHeap} {l : List (List Nat)} : frzF k h h' (nrowsA l) = nrowsA l := frz_frozen k _ nrowsA_frozen
@[simp] theorem map_frz_nats {k : Nat} {h h' : AHeap} {l : List Nat} : (l.map fun x : Nat => AV.int .i64 (x : Int)).map (frzF k h h') = l.map fun x : Nat => AV.int .i64 (x : Int) := map_frozen nats_frozen
@[simp] theorem map_frz_nrows {k : Nat} {h h' : AHeap} {l : List (List Nat)} : (l.map natsA).map (frzF k h h') = l.map natsA := map_frozen nrows_frozen
def Dfa.av (m : Dfa) : AV := .agg [.int .i64 (m.k : Int), nrowsA m.next, boolsA m.good]
structure Dfa.ok (m : Dfa) : Prop where
  k1 : 1 ≤ m.k
  k4 : m.k ≤ 4
  n1 : 1 ≤ m.next.length
  n64 : m.next.length ≤ 64
  gl : m.good.length = m.next.length
  rl : ∀ r ∈ m.next, r.length = m.k
  lt : ∀ r ∈ m.next, ∀ x ∈ r, x < m.next.length
/-- The same with any number of states. -/
structure Dfa.wf (m : Dfa) : Prop where
  k1 : 1 ≤ m.k
  k4 : m.k ≤ 4
  n1 : 1 ≤ m.next.length
  nmax : m.next.length ≤ 1000000
  gl : m.good.length = m.next.length
  rl : ∀ r ∈ m.next, r.length = m.k
  lt : ∀ r ∈ m.next, ∀ x ∈ r, x < m.next.length
theorem Dfa.ok.wf {m : Dfa} (o : m.ok) : m.wf := ⟨o.k1, o.k4, o.n1, by have := o.n64; omega, o.gl, o.rl, o.lt⟩

/-! ### tame -/
def tameN (a : RAuto) (most : Nat) : Nat := max 1 (min a.next.length most)
def tameX (a : RAuto) (n s i : Nat) : Nat := if s < a.next.length ∧ i < (a.next.getD s []).length then (IntKind.u64.wrap ((a.next.getD s []).getD i 0) % n).toNat else 0
def tameRow (a : RAuto) (n s k : Nat) : List Nat := (List.range k).map (tameX a n s)
def tameRows (a : RAuto) (n k s : Nat) : List (List Nat) := (List.range s).map fun s => tameRow a n s k
def tameGood (a : RAuto) (s : Nat) : List Bool := (List.range s).map fun s => a.good.getD s false
def tameF (a : RAuto) (k most : Nat) : Dfa := ⟨k, tameRows a (tameN a most) k (tameN a most), tameGood a (tameN a most)⟩
theorem tame_ok (a : RAuto) (k most : Nat) (h1 : 1 ≤ k) (h4 : k ≤ 4) (hm : most ≤ 64) : (tameF a k most).ok := by
  have hn : 1 ≤ tameN a most ∧ tameN a most ≤ 64 := by unfold tameN; omega
  refine ⟨h1, h4, by simp [tameF, tameRows]; omega, by simp [tameF, tameRows]; omega, by simp [tameF, tameRows, tameGood], ?_, ?_⟩
  · intro r hr
    simp only [tameF, tameRows, List.mem_map] at hr
    obtain ⟨s, _, rfl⟩ := hr
    simp [tameRow, tameF]
  · intro r hr x hx
    simp only [tameF, tameRows, List.mem_map] at hr
    obtain ⟨s, _, rfl⟩ := hr
    simp only [tameRow, List.mem_map] at hx
    obtain ⟨i, _, rfl⟩ := hx
    simp only [tameF, tameRows, List.length_map, List.length_range, tameX]
    split
    · have := Int.emod_lt_of_pos (IntKind.u64.wrap ((a.next.getD s []).getD i 0)) (show (0 : Int) < (tameN a most : Nat) from by omega)
      omega
    · omega

theorem w_tame (a : RAuto) (hs : a.sized) (k most : Nat) (h1 : 1 ≤ k) (h4 : k ≤ 4) (hm : most ≤ 64) : Pure Try.prog 15 [a.av, .int .i64 k, .int .i64 most] (tameF a k most).av := by
  refine pure_of (acalls_of Try.func15 rfl Try.call15 (by kernel_rfl) (by show _ ≤ (91 : Nat); simp) ?_)
  obtain ⟨l, next, good⟩ := a
  obtain ⟨z1, z2, z3⟩ := hs
  simp only [RAuto.av, rowsA, boolsA] at z1 z2 z3 ⊢
  simp
  intro b3 hb3
  simp
  intro b6 hb6
  simp at hb6
  simp [hb6]
  intro b8 hb8
  simp at hb8
  simp [hb8, hb6]
  obtain ⟨n, hn⟩ : ∃ n, n = tameN ⟨l, next, good⟩ most := ⟨_, rfl⟩
  have hn1 : 1 ≤ n ∧ n ≤ 64 := by rw [hn]; unfold tameN; omega
  have e7 : (if 1 < if most < next.length then (most : Int) else next.length then if most < next.length then (most : Int) else next.length else 1) = (n : Int) := by
    rw [hn]; unfold tameN; simp only; repeat' split
    all_goals omega
  simp only [tameF, ← hn]
  refine awp_loop_g (γ := Nat × Option (Nat × Nat)) (fun g t h => (g.1 ≤ n) ∧ ((g.2 = none → g.1 = 0) ∧ ∀ p q, g.2 = some (p, q) → (¬ p = b3 ∧ ¬ b3 = p) ∧ (¬ p = b6 ∧ ¬ b6 = p) ∧ (¬ p = b8 ∧ ¬ b8 = p) ∧ (¬ q = b3 ∧ ¬ b3 = q) ∧ (¬ q = b6 ∧ ¬ b6 = q) ∧ (¬ q = b8 ∧ ¬ b8 = q) ∧ ¬ p = q ∧ ¬ q = p) ∧ t 1 = .int .i64 k ∧ t 3 = .ptr b3 0 ∧ t 6 = .ptr b6 0 ∧ t 7 = .int .i64 n ∧ t 8 = .ptr b8 0 ∧ t 9 = .int .i64 g.1 ∧ h = match g.2 with | none => ((AHeap.empty.upd b3 (.cells [.int .i64 l, .sl next.length (next.map intsA), .sl good.length (good.map .bool)])).upd b6 (.cells [.int .i64 0, .nilsl, .nilsl])).upd b8 (.cells [.int .i64 k, .nilsl, .nilsl]) | some (p, q) => ((((AHeap.empty.upd b3 (.cells [.int .i64 l, .sl next.length (next.map intsA), .sl good.length (good.map .bool)])).upd b6 (.cells [.int .i64 0, .nilsl, .nilsl])).upd b8 (.cells [.int .i64 k, .osl p 0 g.1 1, .osl q 0 g.1 1])).upd p (.cells ((tameRows ⟨l, next, good⟩ n k g.1).map natsA))).upd q (.cells ((tameGood ⟨l, next, good⟩ g.1).map .bool))) (fun g => n - g.1) ((0, none)) (turnA_self (by simp [e7])) ?_
  rintro g t H0 ⟨hs, ho, h1, h3, h6, h7, h8, h9, hh⟩
  obtain ⟨s, o⟩ := g
  simp only at h1 h3 h6 h7 h8 h9 hs ho hh
  by_cases hlt : s < n
  · have e3 : ∀ off, cellsAt H0 b3 off = some (List.drop off [.int .i64 l, .sl next.length (next.map intsA), .sl good.length (good.map .bool)]) := by
      intro off
      rcases o with _ | ⟨p, q⟩
      · simp [hh, hb6, hb8]
      · have := ho.2 p q rfl
        simp [hh, hb6, hb8, this]
    simp [h1, h3, h6, h7, h8, h9, hlt]
    refine awp_loop_t (γ := Nat × Option Nat) (fun g t h => (g.1 ≤ k) ∧ ((g.2 = none → g.1 = 0) ∧ ∀ r, g.2 = some r → Fresh H0 r) ∧ t 1 = .int .i64 k ∧ t 3 = .ptr b3 0 ∧ t 6 = .ptr b6 0 ∧ t 7 = .int .i64 n ∧ t 8 = .ptr b8 0 ∧ t 9 = .int .i64 s ∧ t 10 = ownV g.2 g.1 1 ∧ t 11 = .int .i64 g.1 ∧ h = H0.updO g.2 ((tameRow ⟨l, next, good⟩ n s g.1).map fun x : Nat => AV.int .i64 (x : Int))) (fun g => k - g.1) ((0, none)) (turnA_self (by simp [h1, h3, h6, h7, h8, h9])) ?_
    rintro g t h ⟨hi, hr, h1, h3, h6, h7, h8, h9, h10, h11, rfl⟩
    obtain ⟨i, r⟩ := g
    simp only at h1 h3 h6 h7 h8 h9 h10 h11 hi hr
    have hrow1 : tameRow ⟨l, next, good⟩ n s (i + 1) = tameRow ⟨l, next, good⟩ n s i ++ [tameX ⟨l, next, good⟩ n s i] := by simp [tameRow, List.range_succ]
    have hrl : (tameRow ⟨l, next, good⟩ n s i).length = i := by simp [tameRow]
    have hw : IntKind.i64.wrap ((i : Int) + 1) = (i : Int) + 1 := wrap_i64 (by omega) (by omega)
    by_cases hlti : i < k
    · have hu : IntKind.u64.wrap (n : Int) = n := wrap_u64 (by omega) (by omega)
      have hn0 : ¬ n = 0 := by omega
      by_cases hsl : s < next.length
      · by_cases hir : i < next[s].length
        · have hx0 := u64_nonneg next[s][i]
          have htm : (IntKind.u64.wrap next[s][i]).tmod (n : Int) = IntKind.u64.wrap next[s][i] % n := Int.tmod_eq_emod_of_nonneg hx0.1
          have hx1 := Int.emod_nonneg (IntKind.u64.wrap next[s][i]) (show (n : Int) ≠ 0 by omega)
          have hx2 := Int.emod_lt_of_pos (IntKind.u64.wrap next[s][i]) (show (0 : Int) < n by omega)
          have hX' : (tameX ⟨l, next, good⟩ n s i : Int) = IntKind.u64.wrap next[s][i] % n := by simp [tameX, hsl, hir]; omega
          have hwx : IntKind.i64.wrap (IntKind.u64.wrap next[s][i] % (n : Int)) = tameX ⟨l, next, good⟩ n s i := by rw [hX']; exact wrap_i64 (by omega) (by omega)
          have hX := trivial
          rcases r with _ | r
          · obtain rfl : i = 0 := hr.1 rfl
            simp [h1, h3, h6, h7, h8, h9, h10, h11, hlti, e3, hsl, hir, intsA, hu, hn0, htm, hwx]
            intro b hb
            simp [h1, h3, h6, h7, h8, h9, h10, h11]
            intro b' hb'
            simp at hb'
            simp [h1, h3, h6, h7, h8, h9, h10, h11, hw, hb']
            exact turnA_to _ ((Drop.refl H0).upd hb).both ⟨0 + 1, by omega, by omega, some b', by simp [h1, h3, h6, h7, h8, h9, h10, h11, hb', hrow1, hX, tameRow]⟩
          · have hr1 := hr.2 r rfl
            have hr2 := ne_fresh (e3 0) hr1
            simp [h1, h3, h6, h7, h8, h9, h10, h11, hlti, e3, hsl, hr2, hir, intsA, hu, hn0, htm, hwx]
            intro b hb
            simp at hb
            simp [h1, h3, h6, h7, h8, h9, h10, h11, hrl, hb]
            refine ⟨by omega, ?_⟩
            intro b' hb'
            simp [hr1] at hb'
            simp [h1, h3, h6, h7, h8, h9, h10, h11, hw, hb', hr1]
            exact turnA_to _ ((Drop.refl H0).upd hb.2.2).both ⟨i + 1, by omega, by omega, some b', by simp [h1, h3, h6, h7, h8, h9, h10, h11, hb', hrow1, hX]⟩
        · have hX : tameX ⟨l, next, good⟩ n s i = 0 := by simp [tameX, hsl, hir]
          rcases r with _ | r
          · obtain rfl : i = 0 := hr.1 rfl
            simp [h1, h3, h6, h7, h8, h9, h10, h11, hlti, e3, hsl, hir, intsA]
            intro b hb
            simp [h1, h3, h6, h7, h8, h9, h10, h11]
            intro b' hb'
            simp at hb'
            simp [h1, h3, h6, h7, h8, h9, h10, h11, hw, hb']
            exact turnA_to _ ((Drop.refl H0).upd hb).both ⟨0 + 1, by omega, by omega, some b', by simp [h1, h3, h6, h7, h8, h9, h10, h11, hb', hrow1, hX, tameRow]⟩
          · have hr1 := hr.2 r rfl
            have hr2 := ne_fresh (e3 0) hr1
            simp [h1, h3, h6, h7, h8, h9, h10, h11, hlti, e3, hsl, hr2, hir, intsA]
            intro b hb
            simp at hb
            simp [h1, h3, h6, h7, h8, h9, h10, h11, hrl, hb]
            refine ⟨by omega, ?_⟩
            intro b' hb'
            simp [hr1] at hb'
            simp [h1, h3, h6, h7, h8, h9, h10, h11, hw, hb', hr1]
            exact turnA_to _ ((Drop.refl H0).upd hb.2.2).both ⟨i + 1, by omega, by omega, some b', by simp [h1, h3, h6, h7, h8, h9, h10, h11, hb', hrow1, hX]⟩
      · have hX : tameX ⟨l, next, good⟩ n s i = 0 := by simp [tameX, hsl]
        rcases r with _ | r
        · obtain rfl : i = 0 := hr.1 rfl
          simp [h1, h3, h6, h7, h8, h9, h10, h11, hlti, e3, hsl, intsA]
          intro b hb
          simp [h1, h3, h6, h7, h8, h9, h10, h11]
          intro b' hb'
          simp at hb'
          simp [h1, h3, h6, h7, h8, h9, h10, h11, hw, hb']
          exact turnA_to _ ((Drop.refl H0).upd hb).both ⟨0 + 1, by omega, by omega, some b', by simp [h1, h3, h6, h7, h8, h9, h10, h11, hb', hrow1, hX, tameRow]⟩
        · have hr1 := hr.2 r rfl
          have hr2 := ne_fresh (e3 0) hr1
          simp [h1, h3, h6, h7, h8, h9, h10, h11, hlti, e3, hsl, hr2, intsA]
          intro b hb
          simp at hb
          simp [h1, h3, h6, h7, h8, h9, h10, h11, hrl, hb]
          refine ⟨by omega, ?_⟩
          intro b' hb'
          simp [hr1] at hb'
          simp [h1, h3, h6, h7, h8, h9, h10, h11, hw, hb', hr1]
          exact turnA_to _ ((Drop.refl H0).upd hb.2.2).both ⟨i + 1, by omega, by omega, some b', by simp [h1, h3, h6, h7, h8, h9, h10, h11, hb', hrow1, hX]⟩
    · obtain rfl : i = k := by omega
      rcases r with _ | r
      · have := hr.1 rfl; omega
      have hr1 := hr.2 r rfl
      simp [h1, h3, h6, h7, h8, h9, h10, h11]
      refine turnA_row 10 r (n := i) (es := 1) (cs := (tameRow ⟨l, next, good⟩ n s i).map fun x : Nat => AV.int .i64 (x : Int)) h10 (by simp) (by simp [hrl]) nats_frozen ?_
      simp [hr1]
      have hrowA : AV.sl i ((tameRow ⟨l, next, good⟩ n s i).map fun x : Nat => AV.int .i64 (x : Int)) = natsA (tameRow ⟨l, next, good⟩ n s i) := by simp [natsA, hrl]
      have hrow0 : tameRows ⟨l, next, good⟩ n i (s + 1) = tameRows ⟨l, next, good⟩ n i s ++ [tameRow ⟨l, next, good⟩ n s i] := by simp [tameRows, List.range_succ]
      have hrow2 : (tameRows ⟨l, next, good⟩ n i s).length = s := by simp [tameRows]
      have hgood0 : tameGood ⟨l, next, good⟩ (s + 1) = tameGood ⟨l, next, good⟩ s ++ [good.getD s false] := by simp [tameGood, List.range_succ]
      have hgood2 : (tameGood ⟨l, next, good⟩ s).length = s := by simp [tameGood]
      have hw : IntKind.i64.wrap ((s : Int) + 1) = (s : Int) + 1 := wrap_i64 (by omega) (by omega)
      rw [hrowA]
      subst hh
      refine awp_draw_text (by kernel_rfl) [] [] (by kernel_rfl) (by kernel_rfl) (by simp) ?_
      rcases o with _ | ⟨p, q⟩
      · obtain rfl : s = 0 := ho.1 rfl
        simp [h1, h3, h6, h7, h8, h9, h10, h11, hb6, hb8]
        intro b hb
        simp at hb
        simp [h1, h3, h6, h7, h8, h9, h10, h11, hb6, hb8, hb]
        intro p hp
        simp at hp
        simp [h1, h3, h6, h7, h8, h9, h10, h11, hb6, hb8, hb, hp]
        by_cases hg : 0 < good.length
        · have hg1 : good[0]?.getD false = good[0] := by simp [hg]
          simp [h1, h3, h6, h7, h8, h9, h10, h11, hb6, hb8, hb, hp, hg]
          intro b2 hb2
          simp at hb2
          simp [h1, h3, h6, h7, h8, h9, h10, h11, hb6, hb8, hb, hp, hb2, hg]
          intro q hq
          simp at hq
          simp [h1, h3, h6, h7, h8, h9, h10, h11, hb6, hb8, hb, hp, hb2, hq, hg, hw]
          refine turnA_to (((((AHeap.empty.upd b3 (.cells [.int .i64 l, .sl next.length (next.map intsA), .sl good.length (good.map .bool)])).upd b6 (.cells [.int .i64 0, .nilsl, .nilsl])).upd b8 (.cells [.int .i64 i, .osl p 0 1 1, .osl q 0 1 1])).upd p (.cells ((tameRows ⟨l, next, good⟩ n i 1).map natsA))).upd q (.cells ((tameGood ⟨l, next, good⟩ 1).map .bool))) ?_ ⟨1, by omega, by omega, some (p, q), by simp [h1, h3, h6, h7, h8, h9, h10, h11, hp, hq]⟩
          simp [hrow0, hgood0, hg1, tameRows, tameGood]
          repeat (first | exact Drop.refl _ | apply Drop.both | refine Drop.upd ?_ ?_)
          all_goals simp [hb, hb2, hp, hq]
        · have hg1 : good[0]?.getD false = false := by rw [List.getElem?_eq_none (by omega)]; rfl
          simp [h1, h3, h6, h7, h8, h9, h10, h11, hb6, hb8, hb, hp, hg]
          intro b2 hb2
          simp at hb2
          simp [h1, h3, h6, h7, h8, h9, h10, h11, hb6, hb8, hb, hp, hb2, hg]
          intro q hq
          simp at hq
          simp [h1, h3, h6, h7, h8, h9, h10, h11, hb6, hb8, hb, hp, hb2, hq, hg, hw]
          refine turnA_to (((((AHeap.empty.upd b3 (.cells [.int .i64 l, .sl next.length (next.map intsA), .sl good.length (good.map .bool)])).upd b6 (.cells [.int .i64 0, .nilsl, .nilsl])).upd b8 (.cells [.int .i64 i, .osl p 0 1 1, .osl q 0 1 1])).upd p (.cells ((tameRows ⟨l, next, good⟩ n i 1).map natsA))).upd q (.cells ((tameGood ⟨l, next, good⟩ 1).map .bool))) ?_ ⟨1, by omega, by omega, some (p, q), by simp [h1, h3, h6, h7, h8, h9, h10, h11, hp, hq]⟩
          simp [hrow0, hgood0, hg1, tameRows, tameGood]
          repeat (first | exact Drop.refl _ | apply Drop.both | refine Drop.upd ?_ ?_)
          all_goals simp [hb, hb2, hp, hq]
      · have ho1 := ho.2 p q rfl
        have hs1 : s + 1 ≤ n := by omega
        simp [h1, h3, h6, h7, h8, h9, h10, h11, hb6, hb8, ho1]
        intro b hb
        simp at hb
        simp [h1, h3, h6, h7, h8, h9, h10, h11, hb6, hb8, hb, ho1, hrow2]
        refine ⟨by omega, ?_⟩
        intro p' hp
        simp at hp
        simp [h1, h3, h6, h7, h8, h9, h10, h11, hb6, hb8, hb, hp, ho1]
        by_cases hg : s < good.length
        · have hg1 : good[s]?.getD false = good[s] := by simp [hg]
          simp [h1, h3, h6, h7, h8, h9, h10, h11, hb6, hb8, hb, hp, hg, ho1]
          intro b2 hb2
          simp at hb2
          simp [h1, h3, h6, h7, h8, h9, h10, h11, hb6, hb8, hb, hp, hb2, hg, ho1, hgood2]
          refine ⟨by omega, ?_⟩
          intro q' hq
          simp at hq
          simp [h1, h3, h6, h7, h8, h9, h10, h11, hb6, hb8, hb, hp, hb2, hq, hg, hw, ho1]
          refine turnA_to (((((AHeap.empty.upd b3 (.cells [.int .i64 l, .sl next.length (next.map intsA), .sl good.length (good.map .bool)])).upd b6 (.cells [.int .i64 0, .nilsl, .nilsl])).upd b8 (.cells [.int .i64 i, .osl p' 0 (s + 1) 1, .osl q' 0 (s + 1) 1])).upd p' (.cells ((tameRows ⟨l, next, good⟩ n i (s + 1)).map natsA))).upd q' (.cells ((tameGood ⟨l, next, good⟩ (s + 1)).map .bool))) ?_ ⟨s + 1, by omega, by omega, some (p', q'), by simp [h1, h3, h6, h7, h8, h9, h10, h11, hp, hq]⟩
          simp [hrow0, hgood0, hg1]
          repeat (first | exact Drop.refl _ | apply Drop.both | refine Drop.upd ?_ ?_)
          all_goals simp [hb, hb2, hp, hq]
        · have hg1 : good[s]?.getD false = false := by rw [List.getElem?_eq_none (by omega)]; rfl
          simp [h1, h3, h6, h7, h8, h9, h10, h11, hb6, hb8, hb, hp, hg, ho1]
          intro b2 hb2
          simp at hb2
          simp [h1, h3, h6, h7, h8, h9, h10, h11, hb6, hb8, hb, hp, hb2, hg, ho1, hgood2]
          refine ⟨by omega, ?_⟩
          intro q' hq
          simp at hq
          simp [h1, h3, h6, h7, h8, h9, h10, h11, hb6, hb8, hb, hp, hb2, hq, hg, hw, ho1]
          refine turnA_to (((((AHeap.empty.upd b3 (.cells [.int .i64 l, .sl next.length (next.map intsA), .sl good.length (good.map .bool)])).upd b6 (.cells [.int .i64 0, .nilsl, .nilsl])).upd b8 (.cells [.int .i64 i, .osl p' 0 (s + 1) 1, .osl q' 0 (s + 1) 1])).upd p' (.cells ((tameRows ⟨l, next, good⟩ n i (s + 1)).map natsA))).upd q' (.cells ((tameGood ⟨l, next, good⟩ (s + 1)).map .bool))) ?_ ⟨s + 1, by omega, by omega, some (p', q'), by simp [h1, h3, h6, h7, h8, h9, h10, h11, hp, hq]⟩
          simp [hrow0, hgood0, hg1]
          repeat (first | exact Drop.refl _ | apply Drop.both | refine Drop.upd ?_ ?_)
          all_goals simp [hb, hb2, hp, hq]
  · obtain rfl : s = n := by omega
    rcases o with _ | ⟨p, q⟩
    · have := ho.1 rfl; omega
    have ho1 := ho.2 p q rfl
    subst hh
    simp [h1, h3, h6, h7, h8, h9, hb6, hb8, ho1]
    have hl1 : (tameRows ⟨l, next, good⟩ s k s).length = s := by simp [tameRows]
    have hl2 : (tameGood ⟨l, next, good⟩ s).length = s := by simp [tameGood]
    refine finA_all 2 ?_
    simp [ho1, hl1, hl2, Dfa.av, nrowsA, boolsA, List.take_of_length_le]
end Go.Proofs

end

section
/-
  Walks: states numbered by keys.
-/
namespace Go.Proofs
open Go Go.AH
set_option maxRecDepth 10000
set_option maxHeartbeats 4000000

theorem w_classedB (n : Nat) (hn1 : 1 ≤ n) (hn : n ≤ 1000000) (key : AV) (κ : Nat → Bool) (H : AHeap) (hkey : ∀ s, s < n → ACallV Try.prog key [.int .i64 (s : Int)] H fun r h' => r = .bool (κ s) ∧ h' = H) :
    ACalls Try.prog 113 [.int .i64 n, key] H fun r h' => r = .tup [natsA (clsF κ n), .int .i64 (ddF κ n).length] ∧ h' = H := by
  refine acalls_of Try.func113 rfl Try.call113 (by kernel_rfl) (by show _ ≤ (40 : Nat); simp) ?_
  simp
  intro bm hbm
  simp
  have hinj : ∀ x y : Bool, AV.bool x = .bool y → x = y := fun x y e => by simpa using e
  refine awp_loop_g (γ := Nat × Option Nat) (fun g t h => (g.1 ≤ n) ∧ ((g.2 = none → g.1 = 0) ∧ ∀ b, g.2 = some b → Fresh H b ∧ ¬ b = bm ∧ ¬ bm = b) ∧ t 1 = key ∧ t 4 = ownV g.2 g.1 1 ∧ t 6 = .map bm ∧ t 12 = .int .i64 n ∧ t 13 = .int .i64 g.1 ∧ h = (H.upd bm (.map (.one .b) (numE AV.bool (ddF κ g.1) 0))).updO g.2 ((clsF κ g.1).map fun x : Nat => AV.int .i64 (x : Int))) (fun g => n - g.1) ((0, none)) (turnA_self (by simp [ddF, numE])) ?_
  rintro g t h ⟨hs, ho, h1, h4, h6, h12, h13, rfl⟩
  obtain ⟨s, o⟩ := g
  simp only at h1 h4 h6 h12 h13 hs ho
  have hcl := clsF_len κ s
  have hdl := ddF_le κ s
  by_cases hlt : s < n
  · have hw : IntKind.i64.wrap ((s : Int) + 1) = (s : Int) + 1 := wrap_i64 (by omega) (by omega)
    have hk := hkey s hlt
    have hget := mapGet_num AV.bool hinj (κ s) (ddF κ s) 0
    have hset := mapSet_num AV.bool hinj (κ s) (ddF κ s) 0
    simp only [Nat.zero_add] at hget hset
    rcases o with _ | b
    · obtain rfl : s = 0 := ho.1 rfl
      simp [h1, h4, h6, h12, h13, hlt]
      refine ((hk.le ((HLe.refl H).new hbm)).use ?_)
      have hmem : ¬ κ 0 ∈ ddF κ 0 := by simp [ddF]
      have hd1 : ddF κ 1 = ddF κ 0 ++ [κ 0] := by simp [ddF]
      have hc1 : clsF κ 1 = [0] := by simp [clsF, ddF]
      have hd0 : (ddF κ 0).length = 0 := by simp [ddF]
      have hset' := hset hmem
      rw [if_neg hmem] at hget
      rw [hd0] at hset'
      simp [h1, h4, h6, h12, h13, hget, hlt, hset', numE_len, hd0]
      intro b1 hb1
      simp at hb1
      simp [h1, h4, h6, h12, h13, hb1]
      intro b2 hb2
      simp at hb2
      simp [h1, h4, h6, h12, h13, hw, hb1, hb2]
      refine turnA_to ((H.upd bm (.map (.one .b) (numE AV.bool (ddF κ 1) 0))).upd b2 (.cells ((clsF κ 1).map fun x : Nat => AV.int .i64 (x : Int)))) ?_ ⟨1, by omega, by omega, some b2, by simp [h1, h4, h6, h12, h13, hb2]⟩
      simp [hd1, hc1]
      exact ((Drop.refl _).upd (by have := hb1; unfold Fresh at this; simp [this])).both
    · have ho1 := ho.2 b rfl
      simp [h1, h4, h6, h12, h13, hlt, ho1]
      refine ((hk.le (((HLe.refl H).new hbm).new ho1.1)).use ?_)
      by_cases hmem : κ s ∈ ddF κ s
      · have hd1 : ddF κ (s + 1) = ddF κ s := by simp [ddF, hmem]
        have hc1 : clsF κ (s + 1) = clsF κ s ++ [ixF (ddF κ s) (κ s)] := by simp [clsF, hd1]
        rw [if_pos hmem] at hget
        skip
        simp [h1, h4, h6, h12, h13, hget, ho1, hlt]
        intro b1 hb1
        simp at hb1
        simp [h1, h4, h6, h12, h13, hb1, ho1, hcl]
        refine ⟨by omega, ?_⟩
        intro b2 hb2
        simp at hb2
        simp [h1, h4, h6, h12, h13, hw, hb1, hb2, ho1]
        refine turnA_to ((H.upd bm (.map (.one .b) (numE AV.bool (ddF κ (s + 1)) 0))).upd b2 (.cells ((clsF κ (s + 1)).map fun x : Nat => AV.int .i64 (x : Int)))) ?_ ⟨s + 1, by omega, by omega, some b2, by simp [h1, h4, h6, h12, h13, hb2]⟩
        simp [hd1, hc1]
        exact ((Drop.refl _).upd (by have := hb1; unfold Fresh at this; simp [this])).both
      · have hd1 : ddF κ (s + 1) = ddF κ s ++ [κ s] := by simp [ddF, hmem]
        have hc1 : clsF κ (s + 1) = clsF κ s ++ [(ddF κ s).length] := by simp only [clsF, hd1]; rw [idx_app_new hmem]
        have hset' := hset hmem
        rw [if_neg hmem] at hget
        skip
        simp [h1, h4, h6, h12, h13, hget, ho1, hset', numE_len]
        intro b1 hb1
        simp at hb1
        simp [h1, h4, h6, h12, h13, hb1, ho1, hcl]
        refine ⟨by omega, ?_⟩
        intro b2 hb2
        simp at hb2
        simp [h1, h4, h6, h12, h13, hw, hb1, hb2, ho1]
        refine turnA_to ((H.upd bm (.map (.one .b) (numE AV.bool (ddF κ (s + 1)) 0))).upd b2 (.cells ((clsF κ (s + 1)).map fun x : Nat => AV.int .i64 (x : Int)))) ?_ ⟨s + 1, by omega, by omega, some b2, by simp [h1, h4, h6, h12, h13, hb2]⟩
        simp [hd1, hc1]
        exact ((Drop.refl _).upd (by have := hb1; unfold Fresh at this; simp [this])).both
  · obtain rfl : s = n := by omega
    rcases o with _ | b
    · have := ho.1 rfl; omega
    have ho1 := ho.2 b rfl
    simp [h1, h4, h6, h12, h13, numE_len, ho1]
    refine finA_to 2 H (((Drop.refl _).upd hbm).upd ho1.1) ⟨?_, rfl⟩
    simp [natsA, hcl, ho1, List.take_of_length_le]

/-- The class of a state and those where it goes. -/
def signA (x : List Int) : AV := .agg (x.map (.int .i64))
theorem w_classedS (n : Nat) (hn1 : 1 ≤ n) (hn : n ≤ 1000000) (key : AV) (κ : Nat → List Int) (hκ : ∀ s, s < n → (κ s).length = 5) (H : AHeap) (hkey : ∀ s, s < n → ACallV Try.prog key [.int .i64 (s : Int)] H fun r h' => r = signA (κ s) ∧ h' = H) :
    ACalls Try.prog 115 [.int .i64 n, key] H fun r h' => r = .tup [natsA (clsF κ n), .int .i64 (ddF κ n).length] ∧ h' = H := by
  refine acalls_of Try.func115 rfl Try.call115 (by kernel_rfl) (by show _ ≤ (40 : Nat); simp) ?_
  simp
  intro bm hbm
  simp
  have hinj : ∀ x y : List Int, signA x = signA y → x = y := fun x y e => by
    have e' : x.map (AV.int .i64) = y.map (AV.int .i64) := by simpa [signA] using e
    exact (List.map_inj_right (fun a b h => by simpa using h)).1 e'
  refine awp_loop_g (γ := Nat × Option Nat) (fun g t h => (g.1 ≤ n) ∧ ((g.2 = none → g.1 = 0) ∧ ∀ b, g.2 = some b → Fresh H b ∧ ¬ b = bm ∧ ¬ bm = b) ∧ t 1 = key ∧ t 4 = ownV g.2 g.1 1 ∧ t 6 = .map bm ∧ t 12 = .int .i64 n ∧ t 13 = .int .i64 g.1 ∧ h = (H.upd bm (.map (.many [.i .i64, .i .i64, .i .i64, .i .i64, .i .i64]) (numE signA (ddF κ g.1) 0))).updO g.2 ((clsF κ g.1).map fun x : Nat => AV.int .i64 (x : Int))) (fun g => n - g.1) ((0, none)) (turnA_self (by simp [ddF, numE])) ?_
  rintro g t h ⟨hs, ho, h1, h4, h6, h12, h13, rfl⟩
  obtain ⟨s, o⟩ := g
  simp only at h1 h4 h6 h12 h13 hs ho
  have hcl := clsF_len κ s
  have hdl := ddF_le κ s
  by_cases hlt : s < n
  · have hw : IntKind.i64.wrap ((s : Int) + 1) = (s : Int) + 1 := wrap_i64 (by omega) (by omega)
    have hk := hkey s hlt
    have hget := mapGet_num signA hinj (κ s) (ddF κ s) 0
    have hset := mapSet_num signA hinj (κ s) (ddF κ s) 0
    simp only [Nat.zero_add] at hget hset
    have hl5 := hκ s hlt
    generalize hx : κ s = x at hl5 hk hget hset
    match x, hl5 with
    | [x0, x1, x2, x3, x4], _ =>
    simp only [signA, List.map_cons, List.map_nil] at hk hget hset
    rcases o with _ | b
    · obtain rfl : s = 0 := ho.1 rfl
      simp [h1, h4, h6, h12, h13, hlt]
      refine ((hk.le ((HLe.refl H).new hbm)).use ?_)
      simp
      intro b8 hb8
      simp at hb8
      have hmem : ¬ [x0, x1, x2, x3, x4] ∈ ddF κ 0 := by simp [ddF]
      have hd1 : ddF κ 1 = ddF κ 0 ++ [[x0, x1, x2, x3, x4]] := by simp [ddF, hx]
      have hc1 : clsF κ 1 = [0] := by simp [clsF, ddF]
      have hd0 : (ddF κ 0).length = 0 := by simp [ddF]
      have hset' : mapSet (numE signA (ddF κ 0) 0) (.agg [.int .i64 x0, .int .i64 x1, .int .i64 x2, .int .i64 x3, .int .i64 x4]) (.int .i64 0) = numE signA (ddF κ 0 ++ [[x0, x1, x2, x3, x4]]) 0 := by
        have q := hset hmem
        rw [hd0] at q
        exact q
      rw [if_neg hmem] at hget
      simp [h1, h4, h6, h12, h13, hb8, hget, hlt, hset', numE_len, hd0]
      intro b1 hb1
      simp at hb1
      simp [h1, h4, h6, h12, h13, hb1, hb8]
      intro b2 hb2
      simp at hb2
      simp [h1, h4, h6, h12, h13, hw, hb1, hb2, hb8]
      refine turnA_to ((H.upd bm (.map (.many [.i .i64, .i .i64, .i .i64, .i .i64, .i .i64]) (numE signA (ddF κ 1) 0))).upd b2 (.cells ((clsF κ 1).map fun x : Nat => AV.int .i64 (x : Int)))) ?_ ⟨1, by omega, by omega, some b2, by simp [h1, h4, h6, h12, h13, hb2]⟩
      simp [hd1, hc1]
      refine Drop.both (Drop.new (Drop.new (Drop.refl _) ?_) ?_) <;> simp [hb8, hb1]
    · have ho1 := ho.2 b rfl
      simp [h1, h4, h6, h12, h13, hlt, ho1]
      refine ((hk.le (((HLe.refl H).new hbm).new ho1.1)).use ?_)
      simp
      intro b8 hb8
      simp at hb8
      by_cases hmem : [x0, x1, x2, x3, x4] ∈ ddF κ s
      · have hd1 : ddF κ (s + 1) = ddF κ s := by simp [ddF, hmem, hx]
        have hc1 : clsF κ (s + 1) = clsF κ s ++ [ixF (ddF κ s) [x0, x1, x2, x3, x4]] := by simp [clsF, hd1, hx]
        rw [if_pos hmem] at hget
        simp [h1, h4, h6, h12, h13, hget, ho1, hb8, hlt]
        intro b1 hb1
        simp at hb1
        simp [h1, h4, h6, h12, h13, hb1, ho1, hcl, hb8]
        refine ⟨by omega, ?_⟩
        intro b2 hb2
        simp at hb2
        simp [h1, h4, h6, h12, h13, hw, hb1, hb2, ho1, hb8]
        refine turnA_to ((H.upd bm (.map (.many [.i .i64, .i .i64, .i .i64, .i .i64, .i .i64]) (numE signA (ddF κ (s + 1)) 0))).upd b2 (.cells ((clsF κ (s + 1)).map fun x : Nat => AV.int .i64 (x : Int)))) ?_ ⟨s + 1, by omega, by omega, some b2, by simp [h1, h4, h6, h12, h13, hb2]⟩
        simp [hd1, hc1]
        refine Drop.both (Drop.new (Drop.new (Drop.refl _) ?_) ?_) <;> simp [hb8, hb1]
      · have hd1 : ddF κ (s + 1) = ddF κ s ++ [[x0, x1, x2, x3, x4]] := by simp [ddF, hmem, hx]
        have hc1 : clsF κ (s + 1) = clsF κ s ++ [(ddF κ s).length] := by simp only [clsF, hd1, hx]; rw [idx_app_new hmem]
        have hset' := hset hmem
        rw [if_neg hmem] at hget
        simp [h1, h4, h6, h12, h13, hget, ho1, hb8, hset', numE_len]
        intro b1 hb1
        simp at hb1
        simp [h1, h4, h6, h12, h13, hb1, ho1, hcl, hb8]
        refine ⟨by omega, ?_⟩
        intro b2 hb2
        simp at hb2
        simp [h1, h4, h6, h12, h13, hw, hb1, hb2, ho1, hb8]
        refine turnA_to ((H.upd bm (.map (.many [.i .i64, .i .i64, .i .i64, .i .i64, .i .i64]) (numE signA (ddF κ (s + 1)) 0))).upd b2 (.cells ((clsF κ (s + 1)).map fun x : Nat => AV.int .i64 (x : Int)))) ?_ ⟨s + 1, by omega, by omega, some b2, by simp [h1, h4, h6, h12, h13, hb2]⟩
        simp [hd1, hc1]
        refine Drop.both (Drop.new (Drop.new (Drop.refl _) ?_) ?_) <;> simp [hb8, hb1]
  · obtain rfl : s = n := by omega
    rcases o with _ | b
    · have := ho.1 rfl; omega
    have ho1 := ho.2 b rfl
    simp [h1, h4, h6, h12, h13, numE_len, ho1]
    refine finA_to 2 H (((Drop.refl _).upd hbm).upd ho1.1) ⟨?_, rfl⟩
    simp [natsA, hcl, ho1, List.take_of_length_le]
end Go.Proofs

end

section
/-
  Walks: keys that can be reached.
-/
namespace Go.Proofs
open Go Go.AH
set_option maxRecDepth 10000
set_option maxHeartbeats 4000000
set_option linter.unusedSectionVars false

section
variable {α : Type} [DecidableEq α]
def rStep (ν : α → Nat → α) (most : Int) (x : α) (st : Option (List α × List Nat)) (i : Nat) : Option (List α × List Nat) :=
  st.bind fun st => if ν x i ∈ st.1 then some (st.1, st.2 ++ [ixF st.1 (ν x i)]) else if (st.1.length : Int) = most then none else some (st.1 ++ [ν x i], st.2 ++ [st.1.length])
def rRow (ν : α → Nat → α) (most : Int) (x : α) (keys : List α) (k : Nat) : Option (List α × List Nat) := (List.range k).foldl (rStep ν most x) (some (keys, []))
def rIter (ν : α → Nat → α) (most : Int) (k : Nat) (start : α) : Nat → Option (List α × List (List Nat))
  | 0 => some ([start], [])
  | a + 1 => (rIter ν most k start a).bind fun st => match st.1[a]? with
    | some x => (rRow ν most x st.1 k).map fun r => (r.1, st.2 ++ [r.2])
    | none => some st
theorem rRow_succ (ν : α → Nat → α) (most : Int) (x : α) (keys : List α) (k : Nat) : rRow ν most x keys (k + 1) = rStep ν most x (rRow ν most x keys k) k := by simp [rRow, List.range_succ]
theorem rRow_none (ν : α → Nat → α) (most : Int) (x : α) (keys : List α) (k j : Nat) (e : rRow ν most x keys k = none) (hj : k ≤ j) : rRow ν most x keys j = none := by
  induction j with
  | zero => have : k = 0 := by omega
            subst this; exact e
  | succ j ih =>
    by_cases hk : k = j + 1
    · subst hk; exact e
    · rw [rRow_succ, ih (by omega)]; rfl
theorem rIter_none (ν : α → Nat → α) (most : Int) (k : Nat) (start : α) (a b : Nat) (e : rIter ν most k start a = none) (hb : a ≤ b) : rIter ν most k start b = none := by
  induction b with
  | zero => have : a = 0 := by omega
            subst this; exact e
  | succ j ih =>
    by_cases hk : a = j + 1
    · subst hk; exact e
    · simp only [rIter, ih (by omega)]; rfl
theorem rRow_len (ν : α → Nat → α) (most : Int) (x : α) (keys : List α) : ∀ (k : Nat) (st : List α × List Nat), rRow ν most x keys k = some st → st.2.length = k ∧ keys.length ≤ st.1.length ∧ st.1.length ≤ keys.length + k
  | 0, st, e => by simp [rRow] at e; subst e; simp
  | k + 1, st, e => by
    rw [rRow_succ] at e
    cases h : rRow ν most x keys k with
    | none => rw [h] at e; simp [rStep] at e
    | some st' =>
      obtain ⟨h1, h2, h3⟩ := rRow_len ν most x keys k st' h
      rw [h] at e
      simp only [rStep, Option.bind_some] at e
      split at e
      · simp only [Option.some.injEq] at e; subst e; simp; omega
      · split at e
        · cases e
        · simp only [Option.some.injEq] at e; subst e; simp; omega
theorem rIter_len (ν : α → Nat → α) (most : Int) (k : Nat) (start : α) : ∀ (a : Nat) (st : List α × List (List Nat)), rIter ν most k start a = some st → st.1.length ≤ 1 + k * a ∧ 1 ≤ st.1.length
  | 0, st, e => by simp [rIter] at e; subst e; simp
  | a + 1, st, e => by
    simp only [rIter] at e
    cases h : rIter ν most k start a with
    | none => rw [h] at e; cases e
    | some st' =>
      obtain ⟨h1, h2⟩ := rIter_len ν most k start a st' h
      rw [h] at e
      simp only [Option.bind_some] at e
      have hk : k * (a + 1) = k * a + k := Nat.mul_succ k a
      split at e
      · next x hx =>
        cases hr : rRow ν most x st'.1 k with
        | none => rw [hr] at e; cases e
        | some r =>
          rw [hr] at e
          simp only [Option.map_some, Option.some.injEq] at e
          subst e
          have := rRow_len ν most x st'.1 k r hr
          simp only
          omega
      · simp only [Option.some.injEq] at e; subst e; omega
theorem rRow_pre (ν : α → Nat → α) (most : Int) (x : α) (keys : List α) : ∀ (k : Nat) (st : List α × List Nat), rRow ν most x keys k = some st → ∃ E, st.1 = keys ++ E
  | 0, st, e => by simp [rRow] at e; subst e; exact ⟨[], by simp⟩
  | k + 1, st, e => by
    rw [rRow_succ] at e
    cases h : rRow ν most x keys k with
    | none => rw [h] at e; simp [rStep] at e
    | some st' =>
      obtain ⟨E, hE⟩ := rRow_pre ν most x keys k st' h
      rw [h] at e
      simp only [rStep, Option.bind_some] at e
      split at e
      · simp only [Option.some.injEq] at e; subst e; exact ⟨E, hE⟩
      · split at e
        · cases e
        · simp only [Option.some.injEq] at e; subst e; exact ⟨E ++ [ν x k], by simp [hE]⟩
theorem rIter_rows (ν : α → Nat → α) (most : Int) (k : Nat) (start : α) : ∀ (a : Nat) (st : List α × List (List Nat)), (∀ b st, b < a → rIter ν most k start b = some st → b < st.1.length) → rIter ν most k start a = some st → st.2.length = a
  | 0, st, _, e => by simp [rIter] at e; subst e; simp
  | a + 1, st, hF, e => by
    simp only [rIter] at e
    cases h : rIter ν most k start a with
    | none => rw [h] at e; cases e
    | some st' =>
      have h1 := rIter_rows ν most k start a st' (fun b st hb => hF b st (by omega)) h
      have h2 := hF a st' (by omega) h
      rw [h] at e
      simp only [Option.bind_some, List.getElem?_eq_getElem h2] at e
      cases hr : rRow ν most st'.1[a] st'.1 k with
      | none => rw [hr] at e; cases e
      | some r =>
        rw [hr] at e
        simp only [Option.map_some, Option.some.injEq] at e
        subst e
        simp [h1]
structure RowG (α : Type) where
  i : Nat
  ks : List α
  row : List Nat
  bk : Nat
  r : Option Nat
structure RchG (α : Type) where
  a : Nat
  keys : List α
  rows : List (List Nat)
  bk : Nat
  o : Option Nat
/-- What the function hands back. -/
def rchA (kA : List α → AV) (r : Option (List α × List (List Nat))) : AV := match r with | some st => .tup [kA st.1, nrowsA st.2, .bool true] | none => .tup [.nilsl, .nilsl, .bool false]
end

theorem w_reachedI (start k : Nat) (hk4 : k ≤ 4) (hk1 : 1 ≤ k) (most : Int) (next : AV) (ν : Nat → Nat → Nat) (Inv : Nat → Prop) (hst : Inv start) (hinv : ∀ x i, Inv x → i < k → Inv (ν x i)) (H : AHeap)
    (hν : ∀ x i, Inv x → i < k → ACallV Try.prog next [.int .i64 (x : Int), .int .i64 (i : Int)] H fun r h' => r = .int .i64 (ν x i : Int) ∧ h' = H)
    (F : Nat) (hF0 : F ≤ 100000000) (hF1 : 1 ≤ F) (hF : ∀ a st, a < F → rIter ν most k start a = some st → a < st.1.length) (hE : ∀ st, rIter ν most k start F = some st → st.1.length = F) :
    ACalls Try.prog 117 [.int .i64 start, .int .i64 k, .int .i64 most, next] H fun r h' => r = rchA natsA (rIter ν most k start F) ∧ h' = H := by
  refine acalls_of Try.func117 rfl Try.call117 (by kernel_rfl) (by show _ ≤ (71 : Nat); simp) ?_
  have hinj : ∀ x y : Nat, AV.int .i64 (x : Int) = .int .i64 (y : Int) → x = y := fun x y e => by have := (AV.int.inj e).2; omega
  simp
  intro bm hbm
  simp
  intro bk0 hbk0
  simp at hbk0
  simp [hbk0]
  have hlp : ∀ t : AF, ∀ h : AHeap, HLe H h → True := fun _ _ _ => trivial
  refine awp_loop_g (γ := RchG Nat) (fun g t h => (g.a ≤ F) ∧ (rIter ν most k start g.a = some (g.keys, g.rows)) ∧ (HLe H h) ∧ (∀ x ∈ g.keys, Inv x) ∧ (mapAt h (.map bm) = some (bm, .one (.i .i64), numE (fun x : Nat => AV.int .i64 (x : Int)) g.keys 0)) ∧ (∀ off, cellsAt h g.bk off = some ((g.keys.map fun x : Nat => AV.int .i64 (x : Int)).drop off)) ∧ (Fresh H g.bk ∧ ∀ b, g.o = some b → Fresh H b ∧ ¬ b = g.bk ∧ ¬ g.bk = b ∧ cellsAt h b 0 = some (g.rows.map natsA)) ∧ (g.o = none → g.rows = []) ∧ t 1 = .int .i64 k ∧ t 2 = .int .i64 most ∧ t 3 = next ∧ t 8 = .osl g.bk 0 g.keys.length 1 ∧ t 9 = ownV g.o g.rows.length 1 ∧ t 11 = .map bm ∧ t 12 = .int .i64 g.a) (fun g => F - g.a) (⟨0, [start], [], bk0, none⟩) (turnA_self (by simp [rIter, hst, (HLe.refl H).new hbm, ((HLe.refl H).new hbm).new hbk0.2.2, numE, mapSet, hbk0])) ?_
  rintro g t h ⟨ha, hit, hle, hInv, hm, hkb, hfr, hno, h1, h2, h3, h8, h9, h11, h12⟩
  obtain ⟨a, keys, rows, bk, o⟩ := g
  simp only at h1 h2 h3 h8 h9 h11 h12 ha hit hInv hm hkb hfr hno
  have hl := rIter_len ν most k start a _ hit
  simp only at hl
  have hkl : keys.length ≤ 400000001 := by
    have : k * a ≤ 4 * 100000000 := Nat.mul_le_mul hk4 (by omega)
    omega
  by_cases hlt : a < F
  · have hak := hF a _ hlt hit
    simp only at hak
    simp [h1, h2, h3, h8, h9, h11, h12, hak]
    obtain ⟨x, hx⟩ : ∃ x, keys[a]? = some x := ⟨keys[a], by simp [hak]⟩
    have hxI : Inv x := hInv x (List.mem_of_getElem? hx)
    refine awp_loop_t (γ := RowG Nat) (fun g t h => (g.i ≤ k) ∧ (rRow ν most x keys g.i = some (g.ks, g.row)) ∧ (HLe H h) ∧ (∀ x ∈ g.ks, Inv x) ∧ (mapAt h (.map bm) = some (bm, .one (.i .i64), numE (fun x : Nat => AV.int .i64 (x : Int)) g.ks 0)) ∧ (∀ off, cellsAt h g.bk off = some ((g.ks.map fun x : Nat => AV.int .i64 (x : Int)).drop off)) ∧ (Fresh H g.bk) ∧ (∀ b, o = some b → ¬ b = g.bk ∧ ¬ g.bk = b ∧ cellsAt h b 0 = some (rows.map natsA)) ∧ (∀ b, g.r = some b → Fresh H b ∧ ¬ b = g.bk ∧ ¬ g.bk = b ∧ (∀ c, o = some c → ¬ c = b ∧ ¬ b = c) ∧ cellsAt h b 0 = some (g.row.map fun x : Nat => AV.int .i64 (x : Int))) ∧ (g.r = none → g.row = []) ∧ t 1 = .int .i64 k ∧ t 2 = .int .i64 most ∧ t 3 = next ∧ t 8 = .osl g.bk 0 g.ks.length 1 ∧ t 9 = ownV o rows.length 1 ∧ t 11 = .map bm ∧ t 12 = .int .i64 a ∧ t 13 = ownV g.r g.row.length 1 ∧ t 29 = .int .i64 k ∧ t 30 = .int .i64 g.i) (fun g => k - g.i) (⟨0, keys, [], bk, none⟩) (turnA_self (by simp [h1, h2, h3, h8, h9, h11, h12, rRow, hle, hm, hkb, hfr, hInv]; exact ⟨hInv, fun b hb => ⟨(hfr.2 b hb).2.1, (hfr.2 b hb).2.2⟩⟩)) ?_
    rintro g t h ⟨hi, hrow, hle, hInv, hm, hkb, hfk, hfo, hfr2, hno2, h1, h2, h3, h8, h9, h11, h12, h13, h29, h30⟩
    obtain ⟨i, ks, row, bk', r⟩ := g
    simp only at h1 h2 h3 h8 h9 h11 h12 h13 h29 h30 hi hrow hInv hm hkb hfk hfo hfr2 hno2
    obtain ⟨hl1, hl2, hl3⟩ := rRow_len ν most x keys i _ hrow
    simp only at hl1 hl2 hl3
    by_cases hlti : i < k
    · obtain ⟨E, hE⟩ := rRow_pre ν most x keys i _ hrow
      simp only at hE
      have hxk : ks[a]? = some x := by rw [hE, List.getElem?_append_left hak]; exact hx
      have haks : a < ks.length := by omega
      have hxk' : ks[a] = x := by rw [List.getElem?_eq_getElem haks] at hxk; exact Option.some.inj hxk
      have hmk := ne_cells_map (hkb 0) hm
      simp [h1, h2, h3, h8, h9, h11, h12, h13, h29, h30, hlti, haks, hkb, hxk']
      refine ((hν x i hxI hlti).le hle).use ?_
      have hget := mapGet_num (fun x : Nat => AV.int .i64 (x : Int)) hinj (ν x i) ks 0
      have hset := mapSet_num (fun x : Nat => AV.int .i64 (x : Int)) hinj (ν x i) ks 0
      simp only [Nat.zero_add] at hget hset
      have hsucc := rRow_succ ν most x keys i
      rw [hrow] at hsucc
      simp only [rStep, Option.bind_some] at hsucc
      have hw : IntKind.i64.wrap ((i : Int) + 1) = (i : Int) + 1 := wrap_i64 (by omega) (by omega)
      by_cases hmem : ν x i ∈ ks
      · rw [if_pos hmem] at hget hsucc
        rcases r with _ | r
        · obtain rfl := hno2 rfl
          simp [h1, h2, h3, h8, h9, h11, h12, h13, h29, h30, hm, hget]
          intro b1 hb1
          simp [h1, h2, h3, h8, h9, h11, h12, h13, h29, h30]
          intro b2 hb2
          simp at hb2
          simp [h1, h2, h3, h8, h9, h11, h12, h13, h29, h30, hw]
          have g2 : Fresh H b2 ∧ (¬ bm = b2 ∧ ¬ b2 = bm) ∧ (¬ bk' = b2 ∧ ¬ b2 = bk') ∧ ∀ c, o = some c → (¬ c = b2 ∧ ¬ b2 = c) :=
            ⟨hle.fresh hb2.2.2, ne_map hm hb2.2.2, ne_fresh (hkb 0) hb2.2.2, fun c hc => ne_fresh (hfo c hc).2.2 hb2.2.2⟩
          have n1 := ne_map hm hb1; have m1 := ne_fresh (hkb 0) hb1
          refine turnA_self ⟨⟨i + 1, ks, [] ++ [ixF ks (ν x i)], bk', some b2⟩, by simp only; omega, by simp only; omega, hsucc, (hle.new (hle.fresh hb1)).new g2.1, hInv, by simp [n1, g2, hm], by simp [m1, g2, hkb], hfk, ?_, ?_, by simp, by simp [h1, h2, h3, h8, h9, h11, h12, h13, h29, h30, hw]⟩
          · intro b hb
            obtain ⟨q1, q2, q3⟩ := hfo b hb
            have q4 := g2.2.2.2 b hb
            simp [q1, q2, q3, ne_fresh q3 hb1, q4]
          · intro b hb
            cases hb
            simp [g2]
            exact fun c hc => g2.2.2.2 c hc
        · have hr := hfr2 r rfl
          have mr := ne_cells_map hr.2.2.2.2 hm
          simp [h1, h2, h3, h8, h9, h11, h12, h13, h29, h30, hm, hget]
          intro b1 hb1
          have mr1 := ne_fresh hr.2.2.2.2 hb1
          simp [h1, h2, h3, h8, h9, h11, h12, h13, h29, h30, hr, mr1]
          refine ⟨by omega, ?_⟩
          intro b2 hb2
          simp [mr1] at hb2
          simp [h1, h2, h3, h8, h9, h11, h12, h13, h29, h30, hw]
          have g2 : Fresh H b2 ∧ (¬ bm = b2 ∧ ¬ b2 = bm) ∧ (¬ bk' = b2 ∧ ¬ b2 = bk') ∧ ∀ c, o = some c → (¬ c = b2 ∧ ¬ b2 = c) := by
            rcases hb2.2.2 with rfl | f2
            · exact ⟨hr.1, mr.symm, ⟨hr.2.2.1, hr.2.1⟩, fun c hc => hr.2.2.2.1 c hc⟩
            · exact ⟨hle.fresh f2, ne_map hm f2, ne_fresh (hkb 0) f2, fun c hc => ne_fresh (hfo c hc).2.2 f2⟩
          have n1 := ne_map hm hb1; have m1 := ne_fresh (hkb 0) hb1
          refine turnA_self ⟨⟨i + 1, ks, row ++ [ixF ks (ν x i)], bk', some b2⟩, by simp only; omega, by simp only; omega, hsucc, ((hle.del hr.1).new (hle.fresh hb1)).new g2.1, hInv, by simp [n1, g2, hm, mr], by simp [m1, g2, hkb, hr], hfk, ?_, ?_, by simp, by simp [h1, h2, h3, h8, h9, h11, h12, h13, h29, h30, hw]⟩
          · intro b hb
            obtain ⟨q1, q2, q3⟩ := hfo b hb
            have q4 := g2.2.2.2 b hb
            have q5 := hr.2.2.2.1 b hb
            simp [q1, q2, q3, ne_fresh q3 hb1, q4, q5]
          · intro b hb
            cases hb
            simp [g2]
            exact fun c hc => g2.2.2.2 c hc
      · rw [if_neg hmem] at hget hsucc
        by_cases hmost : (ks.length : Int) = most
        · rw [if_pos hmost] at hsucc
          simp [h1, h2, h3, h8, h9, h11, h12, h13, h29, h30, hm, hget, hmost]
          refine turnA_self ?_
          have hnone : rIter ν most k start F = none := by
            refine rIter_none ν most k start (a + 1) F ?_ (by omega)
            simp only [rIter, hit, Option.bind_some, hx]
            rw [rRow_none ν most x keys (i + 1) k hsucc (by omega)]; rfl
          rw [hnone]
          simp [h1, h2, h3, h8, h9, h11, h12, h13, h29, h30]
          exact finA_to 0 H hle.drop ⟨rfl, rfl⟩
        · rw [if_neg hmost] at hsucc
          have hset' := hset hmem
          simp [h1, h2, h3, h8, h9, h11, h12, h13, h29, h30, hm, hget, hmost, hset']
          intro b3 hb3
          simp [hmk] at hb3
          have mk3 := ne_fresh (hkb 0) hb3.2.2
          have hkb0 := hkb 0
          simp only [List.drop_zero] at hkb0
          simp [h1, h2, h3, h8, h9, h11, h12, h13, h29, h30, hkb, mk3, hmk]
          refine ⟨by omega, ?_⟩
          intro b4 hb4
          simp [hmk, mk3] at hb4
          simp [h1, h2, h3, h8, h9, h11, h12, h13, h29, h30]
          have g4 : Fresh H b4 ∧ (∀ c, o = some c → (¬ c = b4 ∧ ¬ b4 = c)) ∧ (∀ c, r = some c → (¬ c = b4 ∧ ¬ b4 = c)) := by
            rcases hb4.2.2.2.2 with rfl | f4
            · exact ⟨hfk, fun c hc => ⟨(hfo c hc).1, (hfo c hc).2.1⟩, fun c hc => ⟨(hfr2 c hc).2.1, (hfr2 c hc).2.2.1⟩⟩
            · exact ⟨hle.fresh f4, fun c hc => ne_fresh (hfo c hc).2.2 f4, fun c hc => ne_fresh (hfr2 c hc).2.2.2.2 f4⟩
          have hmF : Fresh H bm := hbm
          obtain ⟨hX, hhX⟩ : ∃ hX, hX = ((((h.del bk').upd bm (.map (KShape.one (KK.i .i64)) (numE (fun x : Nat => AV.int .i64 (x : Int)) (ks ++ [ν x i]) 0))).upd b3 (.cells [.int .i64 (ν x i : Int)])).upd b4 (.cells (ks.map (fun x : Nat => AV.int .i64 (x : Int)) ++ [.int .i64 (ν x i : Int)]))) := ⟨_, rfl⟩
          rw [← hhX]
          have hle2 : HLe H hX := by rw [hhX]; exact (((hle.del hfk).new hmF).new (hle.fresh hb3.2.2)).new g4.1
          have hm2 : mapAt hX (.map bm) = some (bm, .one (.i .i64), numE (fun x : Nat => AV.int .i64 (x : Int)) (ks ++ [ν x i]) 0) := by rw [hhX]; simp [hb3, hb4, hmk]
          have hkb2 : ∀ off, cellsAt hX b4 off = some (((ks ++ [ν x i]).map fun x : Nat => AV.int .i64 (x : Int)).drop off) := by intro off; rw [hhX]; simp
          have hfo2 : ∀ b, o = some b → ¬ b = b4 ∧ ¬ b4 = b ∧ cellsAt hX b 0 = some (rows.map natsA) := by
            intro b hb
            obtain ⟨q1, q2, q3⟩ := hfo b hb
            have q4 := g4.2.1 b hb
            have q5 := ne_cells_map q3 hm
            have q6 := ne_fresh q3 hb3.2.2
            refine ⟨q4.1, q4.2, ?_⟩
            rw [hhX]; simp [q4, q5, q6, q1, q3]
          have hfr3 : ∀ b, r = some b → Fresh H b ∧ ¬ b = b4 ∧ ¬ b4 = b ∧ (∀ c, o = some c → ¬ c = b ∧ ¬ b = c) ∧ cellsAt hX b 0 = some (row.map fun x : Nat => AV.int .i64 (x : Int)) := by
            intro b hb
            obtain ⟨q0, q1, q2, q7, q3⟩ := hfr2 b hb
            have q4 := g4.2.2 b hb
            have q5 := ne_cells_map q3 hm
            have q6 := ne_fresh q3 hb3.2.2
            refine ⟨q0, q4.1, q4.2, q7, ?_⟩
            rw [hhX]; simp [q4, q5, q6, q1, q3]
          have hInv2 : ∀ y ∈ ks ++ [ν x i], Inv y := by
            intro y hy
            rcases List.mem_append.1 hy with q | q
            · exact hInv y q
            · rw [List.mem_singleton.1 q]; exact hinv x i hxI hlti
          have hlen2 : (ks ++ [ν x i]).length = ks.length + 1 := by simp
          clear hhX hm hkb hkb0 hfo hfr2 hle hInv hmk hxk hxk' haks hset' hget hset hmem hE mk3
          have hle := hle2; have hm := hm2; have hkb := hkb2; have hfo := hfo2; have hfr2 := hfr3; have hInv := hInv2
          have hfk := g4.1
          clear hle2 hm2 hkb2 hfo2 hfr3 hInv2
          obtain ⟨ks2, hks2⟩ : ∃ ks2, ks2 = ks ++ [ν x i] := ⟨_, rfl⟩
          rw [← hks2] at hsucc hm hkb hInv hlen2
          obtain ⟨bk2, hbk2⟩ : ∃ bk2, bk2 = b4 := ⟨_, rfl⟩
          rw [← hbk2] at hkb hfo hfr2 hfk ⊢
          have hlen3 : (ks.length : Int) + 1 = ks2.length := by omega
          rcases r with _ | r
          · obtain rfl := hno2 rfl
            skip
            intro b1 hb1
            simp [h1, h2, h3, h8, h9, h11, h12, h13, h29, h30]
            intro b2 hb2
            simp at hb2
            simp [h1, h2, h3, h8, h9, h11, h12, h13, h29, h30, hw]
            have g2 : Fresh H b2 ∧ (¬ bm = b2 ∧ ¬ b2 = bm) ∧ (¬ bk2 = b2 ∧ ¬ b2 = bk2) ∧ ∀ c, o = some c → (¬ c = b2 ∧ ¬ b2 = c) :=
              ⟨hle.fresh hb2.2.2, ne_map hm hb2.2.2, ne_fresh (hkb 0) hb2.2.2, fun c hc => ne_fresh (hfo c hc).2.2 hb2.2.2⟩
            have n1 := ne_map hm hb1; have m1 := ne_fresh (hkb 0) hb1
            refine turnA_self ⟨⟨i + 1, ks2, [] ++ [ks.length], bk2, some b2⟩, by simp only; omega, by simp only; omega, hsucc, (hle.new (hle.fresh hb1)).new g2.1, hInv, by simp [n1, g2, hm], by simp [m1, g2, hkb], hfk, ?_, ?_, by simp, by simp [h1, h2, h3, h8, h9, h11, h12, h13, h29, h30, hlen2]⟩
            · intro b hb
              obtain ⟨q1, q2, q3⟩ := hfo b hb
              have q4 := g2.2.2.2 b hb
              simp [q1, q2, q3, ne_fresh q3 hb1, q4]
            · intro b hb
              cases hb
              simp [g2]
              exact fun c hc => g2.2.2.2 c hc
          · have hr := hfr2 r rfl
            have mr := ne_cells_map hr.2.2.2.2 hm
            skip
            intro b1 hb1
            have mr1 := ne_fresh hr.2.2.2.2 hb1
            simp [h1, h2, h3, h8, h9, h11, h12, h13, h29, h30, hr, mr1]
            refine ⟨by omega, ?_⟩
            intro b2 hb2
            simp [mr1] at hb2
            simp [h1, h2, h3, h8, h9, h11, h12, h13, h29, h30, hw]
            have g2 : Fresh H b2 ∧ (¬ bm = b2 ∧ ¬ b2 = bm) ∧ (¬ bk2 = b2 ∧ ¬ b2 = bk2) ∧ ∀ c, o = some c → (¬ c = b2 ∧ ¬ b2 = c) := by
              rcases hb2.2.2 with rfl | f2
              · exact ⟨hr.1, mr.symm, ⟨hr.2.2.1, hr.2.1⟩, fun c hc => hr.2.2.2.1 c hc⟩
              · exact ⟨hle.fresh f2, ne_map hm f2, ne_fresh (hkb 0) f2, fun c hc => ne_fresh (hfo c hc).2.2 f2⟩
            have n1 := ne_map hm hb1; have m1 := ne_fresh (hkb 0) hb1
            refine turnA_self ⟨⟨i + 1, ks2, row ++ [ks.length], bk2, some b2⟩, by simp only; omega, by simp only; omega, hsucc, ((hle.del hr.1).new (hle.fresh hb1)).new g2.1, hInv, by simp [n1, g2, hm, mr], by simp [m1, g2, hkb, hr], hfk, ?_, ?_, by simp, by simp [h1, h2, h3, h8, h9, h11, h12, h13, h29, h30, hlen2]⟩
            · intro b hb
              obtain ⟨q1, q2, q3⟩ := hfo b hb
              have q4 := g2.2.2.2 b hb
              have q5 := hr.2.2.2.1 b hb
              simp [q1, q2, q3, ne_fresh q3 hb1, q4, q5]
            · intro b hb
              cases hb
              simp [g2]
              exact fun c hc => g2.2.2.2 c hc
    · obtain rfl : i = k := by omega
      rcases r with _ | r
      · have := hno2 rfl
        rw [this] at hl1; simp at hl1; omega
      have hr := hfr2 r rfl
      have mr := ne_cells_map hr.2.2.2.2 hm
      simp [h1, h2, h3, h8, h9, h11, h12, h13, h29, h30]
      refine turnA_row 13 r (n := row.length) (es := 1) (cs := row.map fun x : Nat => AV.int .i64 (x : Int)) h13 (by simp [hr]) (by simp) nats_frozen ?_
      have hrowA : AV.sl row.length (row.map fun x : Nat => AV.int .i64 (x : Int)) = natsA row := rfl
      rw [hrowA]
      have hit1 : rIter ν most i start (a + 1) = some (ks, rows ++ [row]) := by
        simp only [rIter, hit, Option.bind_some, hx, hrow, Option.map_some]
      have hwa : IntKind.i64.wrap ((a : Int) + 1) = (a : Int) + 1 := wrap_i64 (by omega) (by omega)
      have hleD := hle.del hr.1
      have gF : ∀ c, (c = r ∨ Fresh h c) → Fresh H c ∧ (¬ bm = c ∧ ¬ c = bm) ∧ (¬ bk' = c ∧ ¬ c = bk') ∧ ∀ b, o = some b → ¬ b = c ∧ ¬ c = b := by
        intro c hc
        rcases hc with rfl | f2
        · exact ⟨hr.1, mr.symm, ⟨hr.2.2.1, hr.2.1⟩, fun c hc => hr.2.2.2.1 c hc⟩
        · exact ⟨hle.fresh f2, ne_map hm f2, ne_fresh (hkb 0) f2, fun c hc => ne_fresh (hfo c hc).2.2 f2⟩
      rcases o with _ | o
      · obtain rfl := hno rfl
        simp [h1, h2, h3, h8, h9, h11, h12, h13, h29, h30]
        intro b1 hb1
        simp at hb1
        simp [h1, h2, h3, h8, h9, h11, h12, h13, h29, h30]
        intro b2 hb2
        simp at hb2
        simp [h1, h2, h3, h8, h9, h11, h12, h13, h29, h30, hwa]
        have g1 := gF b1 hb1; have g2 := gF b2 hb2.2.2
        refine turnA_self ⟨⟨a + 1, ks, [row], bk', some b2⟩, by simp only; omega, by simp only; omega, hit1, (hleD.new g1.1).new g2.1, hInv, by simp [g1, g2, hm, mr], by simp [g1, g2, hkb, hr], ⟨hfk, ?_⟩, by simp, by simp [h1, h2, h3, h8, h9, h11, h12, h13, h29, h30]⟩
        intro b hb
        cases hb
        simp [g2]
      · obtain ⟨q1, q2, q3⟩ := hfo o rfl
        have q4 := hr.2.2.2.1 o rfl
        have q5 := ne_cells_map q3 hm
        simp [h1, h2, h3, h8, h9, h11, h12, h13, h29, h30]
        intro b1 hb1
        simp at hb1
        have g1 := gF b1 hb1
        have g3 := g1.2.2.2 o rfl
        simp [h1, h2, h3, h8, h9, h11, h12, h13, h29, h30, g3, q4, q3]
        have hrl : rows.length ≤ 100000000 := by
          have := rIter_rows ν most i start a _ (fun b st hb => hF b st (by omega)) hit
          simp only at this; omega
        refine ⟨by omega, ?_⟩
        intro b2 hb2
        simp at hb2
        have g2 : Fresh H b2 ∧ (¬ bm = b2 ∧ ¬ b2 = bm) ∧ (¬ bk' = b2 ∧ ¬ b2 = bk') := by
          have : b2 = o ∨ b2 = r ∨ Fresh h b2 := by simp_all
          rcases this with rfl | this
          · exact ⟨(hfr.2 b2 rfl).1, q5.symm, ⟨q2, q1⟩⟩
          · have := gF b2 this
            exact ⟨this.1, this.2.1, this.2.2.1⟩
        simp [h1, h2, h3, h8, h9, h11, h12, h13, h29, h30, hwa]
        refine turnA_self ⟨⟨a + 1, ks, rows ++ [row], bk', some b2⟩, by simp only; omega, by simp only; omega, hit1, ?_, hInv, by simp [g1, g2, hm, mr, q5], by simp [g1, g2, hkb, hr, q2], ⟨hfk, ?_⟩, by simp, by simp [h1, h2, h3, h8, h9, h11, h12, h13, h29, h30]⟩
        · exact ((hleD.del (hfr.2 o rfl).1).new g1.1).new g2.1
        · intro b hb
          cases hb
          simp [g2]
  · obtain rfl : a = F := by omega
    have hE1 := hE _ hit
    simp only at hE1
    have hrl := rIter_rows ν most k start a _ hF hit
    simp only at hrl
    rcases o with _ | o
    · have := hno rfl
      rw [this] at hrl; simp at hrl; omega
    obtain ⟨q0, q1, q2, q3⟩ := hfr.2 o rfl
    have hkb0 := hkb 0
    simp only [List.drop_zero] at hkb0
    simp [h1, h2, h3, h8, h9, h11, h12, hE1]
    refine finA_to 3 H hle.drop ⟨?_, rfl⟩
    rw [hit]
    simp [rchA, q0, hfr.1, q3, hkb0, hE1, hrl, natsA, nrowsA, List.take_of_length_le]
end Go.Proofs

end
