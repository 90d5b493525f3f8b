/-
  Walks: small functions of the word chapter.
-/
import Derived.Test.YtobhipohnjmnhaaTy
set_option linter.unusedSimpArgs false
set_option linter.unusedVariables false
set_option linter.unusedSectionVars false
namespace Go.Proofs
open Go Go.AH
set_option maxRecDepth 10000
set_option maxHeartbeats 4000000

def lettersF (n : Int) : Int := 1 + (IntKind.u64.wrap (IntKind.i64.wrap (n + 3))) % 4
theorem letters_bd (n : Int) : 1 ≤ lettersF n ∧ lettersF n ≤ 4 := by unfold lettersF; omega
theorem w_letters (n : Int) : Pure Try.prog 16 [.int .i64 n] (.int .i64 (lettersF n)) := by
  refine pure_of (acalls_of Try.func16 rfl Try.call16 (by kernel_rfl) (by show _ ≤ (9 : Nat); simp) ?_)
  simp
  have h1 := u64_nonneg (IntKind.i64.wrap (n + 3))
  have e : (IntKind.u64.wrap (IntKind.i64.wrap (n + 3))).tmod 4 = (IntKind.u64.wrap (IntKind.i64.wrap (n + 3))) % 4 := Int.tmod_eq_emod_of_nonneg h1.1
  rw [e, wrap_i64 (x := _ % 4) (by omega) (by omega), wrap_i64 (by omega) (by omega)]
  exact finA_self rfl

theorem w_give (l : Int) (next good : AV) (h1 : next.one = true) (h2 : good.one = true) (f1 : next.fit = true) (f2 : good.fit = true) (c1 : next.cells = [next]) (c2 : good.cells = [good]) : Pure Try.prog 17 [.agg [.int .i64 l, next, good]] (.agg [.int .i64 l, next, good]) := by
  refine pure_of (acalls_of Try.func17 rfl Try.call17 (by kernel_rfl) (by show _ ≤ (10 : Nat); simp) ?_)
  simp
  intro b hb
  simp
  intro b2 hb2
  simp at hb2
  simp [hb2, f1, f2, c1, c2]
  exact finA_self rfl

/-- An automaton as it comes in. -/
structure RAuto where
  letters : Int
  next : List (List Int)
  good : List Bool
def RAuto.av (a : RAuto) : AV := .agg [.int .i64 a.letters, rowsA a.next, boolsA a.good]
structure RAuto.sized (a : RAuto) : Prop where
  n : a.next.length ≤ 4611686018427387904
  r : ∀ r ∈ a.next, r.length ≤ 4611686018427387904
  g : a.good.length ≤ 4611686018427387904

/-- A valid automaton. -/
structure Dfa where
  k : Nat
  next : List (List Nat)
  good : List Bool
def natsA (l : List Nat) : AV := .sl l.length (l.map fun x : Nat => AV.int .i64 (x : Int))
def nrowsA (l : List (List Nat)) : AV := .sl l.length (l.map natsA)
@[simp] theorem natsA_one {l : List Nat} : (natsA l).one = true := rfl
@[simp] theorem natsA_fit {l : List Nat} : (natsA l).fit = true := rfl
@[simp] theorem natsA_cells {l : List Nat} : (natsA l).cells = [natsA l] := rfl
@[simp] theorem nrowsA_one {l : List (List Nat)} : (nrowsA l).one = true := rfl
@[simp] theorem nrowsA_fit {l : List (List Nat)} : (nrowsA l).fit = true := rfl
@[simp] theorem nrowsA_cells {l : List (List Nat)} : (nrowsA l).cells = [nrowsA l] := rfl
theorem nats_frozen {l : List Nat} : ∀ a ∈ l.map (fun x : Nat => AV.int .i64 (x : Int)), a.frozen = true := by
  intro a ha; obtain ⟨x, _, rfl⟩ := List.mem_map.1 ha; rfl
@[simp] theorem natsA_frozen {l : List Nat} : (natsA l).frozen = true := by simp only [natsA, AV.frozen]; exact frozens_iff.2 nats_frozen
theorem nrows_frozen {l : List (List Nat)} : ∀ a ∈ l.map natsA, a.frozen = true := by
  intro a ha; obtain ⟨x, _, rfl⟩ := List.mem_map.1 ha; exact natsA_frozen
@[simp] theorem nrowsA_frozen {l : List (List Nat)} : (nrowsA l).frozen = true := by simp only [nrowsA, AV.frozen]; exact frozens_iff.2 nrows_frozen
@[simp] theorem frz_nats {k : Nat} {h h' : AHeap} {l : List Nat} : frzF k h h' (natsA l) = natsA l := frz_frozen k _ natsA_frozen
@[simp] theorem frz_nrows {k : Nat} {h h' : AHeap} {l : List (List Nat)} : frzF k h h' (nrowsA l) = nrowsA l := frz_frozen k _ nrowsA_frozen
@[simp] theorem map_frz_nats {k : Nat} {h h' : AHeap} {l : List Nat} : (l.map fun x : Nat => AV.int .i64 (x : Int)).map (frzF k h h') = l.map fun x : Nat => AV.int .i64 (x : Int) := map_frozen nats_frozen
@[simp] theorem map_frz_nrows {k : Nat} {h h' : AHeap} {l : List (List Nat)} : (l.map natsA).map (frzF k h h') = l.map natsA := map_frozen nrows_frozen
def Dfa.av (m : Dfa) : AV := .agg [.int .i64 (m.k : Int), nrowsA m.next, boolsA m.good]
structure Dfa.ok (m : Dfa) : Prop where
  k1 : 1 ≤ m.k
  k4 : m.k ≤ 4
  n1 : 1 ≤ m.next.length
  n64 : m.next.length ≤ 64
  gl : m.good.length = m.next.length
  rl : ∀ r ∈ m.next, r.length = m.k
  lt : ∀ r ∈ m.next, ∀ x ∈ r, x < m.next.length
/-- The same with any number of states. -/
structure Dfa.wf (m : Dfa) : Prop where
  k1 : 1 ≤ m.k
  k4 : m.k ≤ 4
  n1 : 1 ≤ m.next.length
  nmax : m.next.length ≤ 1000000
  gl : m.good.length = m.next.length
  rl : ∀ r ∈ m.next, r.length = m.k
  lt : ∀ r ∈ m.next, ∀ x ∈ r, x < m.next.length
theorem Dfa.ok.wf {m : Dfa} (o : m.ok) : m.wf := ⟨o.k1, o.k4, o.n1, by have := o.n64; omega, o.gl, o.rl, o.lt⟩

/-! ### tame -/
def tameN (a : RAuto) (most : Nat) : Nat := max 1 (min a.next.length most)
def tameX (a : RAuto) (n s i : Nat) : Nat := if s < a.next.length ∧ i < (a.next.getD s []).length then (IntKind.u64.wrap ((a.next.getD s []).getD i 0) % n).toNat else 0
def tameRow (a : RAuto) (n s k : Nat) : List Nat := (List.range k).map (tameX a n s)
def tameRows (a : RAuto) (n k s : Nat) : List (List Nat) := (List.range s).map fun s => tameRow a n s k
def tameGood (a : RAuto) (s : Nat) : List Bool := (List.range s).map fun s => a.good.getD s false
def tameF (a : RAuto) (k most : Nat) : Dfa := ⟨k, tameRows a (tameN a most) k (tameN a most), tameGood a (tameN a most)⟩
theorem tame_ok (a : RAuto) (k most : Nat) (h1 : 1 ≤ k) (h4 : k ≤ 4) (hm : most ≤ 64) : (tameF a k most).ok := by
  have hn : 1 ≤ tameN a most ∧ tameN a most ≤ 64 := by unfold tameN; omega
  refine ⟨h1, h4, by simp [tameF, tameRows]; omega, by simp [tameF, tameRows]; omega, by simp [tameF, tameRows, tameGood], ?_, ?_⟩
  · intro r hr
    simp only [tameF, tameRows, List.mem_map] at hr
    obtain ⟨s, _, rfl⟩ := hr
    simp [tameRow, tameF]
  · intro r hr x hx
    simp only [tameF, tameRows, List.mem_map] at hr
    obtain ⟨s, _, rfl⟩ := hr
    simp only [tameRow, List.mem_map] at hx
    obtain ⟨i, _, rfl⟩ := hx
    simp only [tameF, tameRows, List.length_map, List.length_range, tameX]
    split
    · have := Int.emod_lt_of_pos (IntKind.u64.wrap ((a.next.getD s []).getD i 0)) (show (0 : Int) < (tameN a most : Nat) from by omega)
      omega
    · omega

theorem w_tame (a : RAuto) (hs : a.sized) (k most : Nat) (h1 : 1 ≤ k) (h4 : k ≤ 4) (hm : most ≤ 64) : Pure Try.prog 15 [a.av, .int .i64 k, .int .i64 most] (tameF a k most).av := by
  refine pure_of (acalls_of Try.func15 rfl Try.call15 (by kernel_rfl) (by show _ ≤ (91 : Nat); simp) ?_)
  obtain ⟨l, next, good⟩ := a
  obtain ⟨z1, z2, z3⟩ := hs
  simp only [RAuto.av, rowsA, boolsA] at z1 z2 z3 ⊢
  simp
  intro b3 hb3
  simp
  intro b6 hb6
  simp at hb6
  simp [hb6]
  intro b8 hb8
  simp at hb8
  simp [hb8, hb6]
  obtain ⟨n, hn⟩ : ∃ n, n = tameN ⟨l, next, good⟩ most := ⟨_, rfl⟩
  have hn1 : 1 ≤ n ∧ n ≤ 64 := by rw [hn]; unfold tameN; omega
  have e7 : (if 1 < if most < next.length then (most : Int) else next.length then if most < next.length then (most : Int) else next.length else 1) = (n : Int) := by
    rw [hn]; unfold tameN; simp only; repeat' split
    all_goals omega
  simp only [tameF, ← hn]
  refine awp_loop_g (γ := Nat × Option (Nat × Nat)) (fun g t h => (g.1 ≤ n) ∧ ((g.2 = none → g.1 = 0) ∧ ∀ p q, g.2 = some (p, q) → (¬ p = b3 ∧ ¬ b3 = p) ∧ (¬ p = b6 ∧ ¬ b6 = p) ∧ (¬ p = b8 ∧ ¬ b8 = p) ∧ (¬ q = b3 ∧ ¬ b3 = q) ∧ (¬ q = b6 ∧ ¬ b6 = q) ∧ (¬ q = b8 ∧ ¬ b8 = q) ∧ ¬ p = q ∧ ¬ q = p) ∧ t 1 = .int .i64 k ∧ t 3 = .ptr b3 0 ∧ t 6 = .ptr b6 0 ∧ t 7 = .int .i64 n ∧ t 8 = .ptr b8 0 ∧ t 9 = .int .i64 g.1 ∧ h = match g.2 with | none => ((AHeap.empty.upd b3 (.cells [.int .i64 l, .sl next.length (next.map intsA), .sl good.length (good.map .bool)])).upd b6 (.cells [.int .i64 0, .nilsl, .nilsl])).upd b8 (.cells [.int .i64 k, .nilsl, .nilsl]) | some (p, q) => ((((AHeap.empty.upd b3 (.cells [.int .i64 l, .sl next.length (next.map intsA), .sl good.length (good.map .bool)])).upd b6 (.cells [.int .i64 0, .nilsl, .nilsl])).upd b8 (.cells [.int .i64 k, .osl p 0 g.1 1, .osl q 0 g.1 1])).upd p (.cells ((tameRows ⟨l, next, good⟩ n k g.1).map natsA))).upd q (.cells ((tameGood ⟨l, next, good⟩ g.1).map .bool))) (fun g => n - g.1) ((0, none)) (turnA_self (by simp [e7])) ?_
  rintro g t H0 ⟨hs, ho, h1, h3, h6, h7, h8, h9, hh⟩
  obtain ⟨s, o⟩ := g
  simp only at h1 h3 h6 h7 h8 h9 hs ho hh
  by_cases hlt : s < n
  · have e3 : ∀ off, cellsAt H0 b3 off = some (List.drop off [.int .i64 l, .sl next.length (next.map intsA), .sl good.length (good.map .bool)]) := by
      intro off
      rcases o with _ | ⟨p, q⟩
      · simp [hh, hb6, hb8]
      · have := ho.2 p q rfl
        simp [hh, hb6, hb8, this]
    simp [h1, h3, h6, h7, h8, h9, hlt]
    refine awp_loop_t (γ := Nat × Option Nat) (fun g t h => (g.1 ≤ k) ∧ ((g.2 = none → g.1 = 0) ∧ ∀ r, g.2 = some r → Fresh H0 r) ∧ t 1 = .int .i64 k ∧ t 3 = .ptr b3 0 ∧ t 6 = .ptr b6 0 ∧ t 7 = .int .i64 n ∧ t 8 = .ptr b8 0 ∧ t 9 = .int .i64 s ∧ t 10 = ownV g.2 g.1 1 ∧ t 11 = .int .i64 g.1 ∧ h = H0.updO g.2 ((tameRow ⟨l, next, good⟩ n s g.1).map fun x : Nat => AV.int .i64 (x : Int))) (fun g => k - g.1) ((0, none)) (turnA_self (by simp [h1, h3, h6, h7, h8, h9])) ?_
    rintro g t h ⟨hi, hr, h1, h3, h6, h7, h8, h9, h10, h11, rfl⟩
    obtain ⟨i, r⟩ := g
    simp only at h1 h3 h6 h7 h8 h9 h10 h11 hi hr
    have hrow1 : tameRow ⟨l, next, good⟩ n s (i + 1) = tameRow ⟨l, next, good⟩ n s i ++ [tameX ⟨l, next, good⟩ n s i] := by simp [tameRow, List.range_succ]
    have hrl : (tameRow ⟨l, next, good⟩ n s i).length = i := by simp [tameRow]
    have hw : IntKind.i64.wrap ((i : Int) + 1) = (i : Int) + 1 := wrap_i64 (by omega) (by omega)
    by_cases hlti : i < k
    · have hu : IntKind.u64.wrap (n : Int) = n := wrap_u64 (by omega) (by omega)
      have hn0 : ¬ n = 0 := by omega
      by_cases hsl : s < next.length
      · by_cases hir : i < next[s].length
        · have hx0 := u64_nonneg next[s][i]
          have htm : (IntKind.u64.wrap next[s][i]).tmod (n : Int) = IntKind.u64.wrap next[s][i] % n := Int.tmod_eq_emod_of_nonneg hx0.1
          have hx1 := Int.emod_nonneg (IntKind.u64.wrap next[s][i]) (show (n : Int) ≠ 0 by omega)
          have hx2 := Int.emod_lt_of_pos (IntKind.u64.wrap next[s][i]) (show (0 : Int) < n by omega)
          have hX' : (tameX ⟨l, next, good⟩ n s i : Int) = IntKind.u64.wrap next[s][i] % n := by simp [tameX, hsl, hir]; omega
          have hwx : IntKind.i64.wrap (IntKind.u64.wrap next[s][i] % (n : Int)) = tameX ⟨l, next, good⟩ n s i := by rw [hX']; exact wrap_i64 (by omega) (by omega)
          have hX := trivial
          rcases r with _ | r
          · obtain rfl : i = 0 := hr.1 rfl
            simp [h1, h3, h6, h7, h8, h9, h10, h11, hlti, e3, hsl, hir, intsA, hu, hn0, htm, hwx]
            intro b hb
            simp [h1, h3, h6, h7, h8, h9, h10, h11]
            intro b' hb'
            simp at hb'
            simp [h1, h3, h6, h7, h8, h9, h10, h11, hw, hb']
            exact turnA_to _ ((Drop.refl H0).upd hb).both ⟨0 + 1, by omega, by omega, some b', by simp [h1, h3, h6, h7, h8, h9, h10, h11, hb', hrow1, hX, tameRow]⟩
          · have hr1 := hr.2 r rfl
            have hr2 := ne_fresh (e3 0) hr1
            simp [h1, h3, h6, h7, h8, h9, h10, h11, hlti, e3, hsl, hr2, hir, intsA, hu, hn0, htm, hwx]
            intro b hb
            simp at hb
            simp [h1, h3, h6, h7, h8, h9, h10, h11, hrl, hb]
            refine ⟨by omega, ?_⟩
            intro b' hb'
            simp [hr1] at hb'
            simp [h1, h3, h6, h7, h8, h9, h10, h11, hw, hb', hr1]
            exact turnA_to _ ((Drop.refl H0).upd hb.2.2).both ⟨i + 1, by omega, by omega, some b', by simp [h1, h3, h6, h7, h8, h9, h10, h11, hb', hrow1, hX]⟩
        · have hX : tameX ⟨l, next, good⟩ n s i = 0 := by simp [tameX, hsl, hir]
          rcases r with _ | r
          · obtain rfl : i = 0 := hr.1 rfl
            simp [h1, h3, h6, h7, h8, h9, h10, h11, hlti, e3, hsl, hir, intsA]
            intro b hb
            simp [h1, h3, h6, h7, h8, h9, h10, h11]
            intro b' hb'
            simp at hb'
            simp [h1, h3, h6, h7, h8, h9, h10, h11, hw, hb']
            exact turnA_to _ ((Drop.refl H0).upd hb).both ⟨0 + 1, by omega, by omega, some b', by simp [h1, h3, h6, h7, h8, h9, h10, h11, hb', hrow1, hX, tameRow]⟩
          · have hr1 := hr.2 r rfl
            have hr2 := ne_fresh (e3 0) hr1
            simp [h1, h3, h6, h7, h8, h9, h10, h11, hlti, e3, hsl, hr2, hir, intsA]
            intro b hb
            simp at hb
            simp [h1, h3, h6, h7, h8, h9, h10, h11, hrl, hb]
            refine ⟨by omega, ?_⟩
            intro b' hb'
            simp [hr1] at hb'
            simp [h1, h3, h6, h7, h8, h9, h10, h11, hw, hb', hr1]
            exact turnA_to _ ((Drop.refl H0).upd hb.2.2).both ⟨i + 1, by omega, by omega, some b', by simp [h1, h3, h6, h7, h8, h9, h10, h11, hb', hrow1, hX]⟩
      · have hX : tameX ⟨l, next, good⟩ n s i = 0 := by simp [tameX, hsl]
        rcases r with _ | r
        · obtain rfl : i = 0 := hr.1 rfl
          simp [h1, h3, h6, h7, h8, h9, h10, h11, hlti, e3, hsl, intsA]
          intro b hb
          simp [h1, h3, h6, h7, h8, h9, h10, h11]
          intro b' hb'
          simp at hb'
          simp [h1, h3, h6, h7, h8, h9, h10, h11, hw, hb']
          exact turnA_to _ ((Drop.refl H0).upd hb).both ⟨0 + 1, by omega, by omega, some b', by simp [h1, h3, h6, h7, h8, h9, h10, h11, hb', hrow1, hX, tameRow]⟩
        · have hr1 := hr.2 r rfl
          have hr2 := ne_fresh (e3 0) hr1
          simp [h1, h3, h6, h7, h8, h9, h10, h11, hlti, e3, hsl, hr2, intsA]
          intro b hb
          simp at hb
          simp [h1, h3, h6, h7, h8, h9, h10, h11, hrl, hb]
          refine ⟨by omega, ?_⟩
          intro b' hb'
          simp [hr1] at hb'
          simp [h1, h3, h6, h7, h8, h9, h10, h11, hw, hb', hr1]
          exact turnA_to _ ((Drop.refl H0).upd hb.2.2).both ⟨i + 1, by omega, by omega, some b', by simp [h1, h3, h6, h7, h8, h9, h10, h11, hb', hrow1, hX]⟩
    · obtain rfl : i = k := by omega
      rcases r with _ | r
      · have := hr.1 rfl; omega
      have hr1 := hr.2 r rfl
      simp [h1, h3, h6, h7, h8, h9, h10, h11]
      refine turnA_row 10 r (n := i) (es := 1) (cs := (tameRow ⟨l, next, good⟩ n s i).map fun x : Nat => AV.int .i64 (x : Int)) h10 (by simp) (by simp [hrl]) nats_frozen ?_
      simp [hr1]
      have hrowA : AV.sl i ((tameRow ⟨l, next, good⟩ n s i).map fun x : Nat => AV.int .i64 (x : Int)) = natsA (tameRow ⟨l, next, good⟩ n s i) := by simp [natsA, hrl]
      have hrow0 : tameRows ⟨l, next, good⟩ n i (s + 1) = tameRows ⟨l, next, good⟩ n i s ++ [tameRow ⟨l, next, good⟩ n s i] := by simp [tameRows, List.range_succ]
      have hrow2 : (tameRows ⟨l, next, good⟩ n i s).length = s := by simp [tameRows]
      have hgood0 : tameGood ⟨l, next, good⟩ (s + 1) = tameGood ⟨l, next, good⟩ s ++ [good.getD s false] := by simp [tameGood, List.range_succ]
      have hgood2 : (tameGood ⟨l, next, good⟩ s).length = s := by simp [tameGood]
      have hw : IntKind.i64.wrap ((s : Int) + 1) = (s : Int) + 1 := wrap_i64 (by omega) (by omega)
      rw [hrowA]
      subst hh
      refine awp_draw_text (by kernel_rfl) [] [] (by kernel_rfl) (by kernel_rfl) (by simp) ?_
      rcases o with _ | ⟨p, q⟩
      · obtain rfl : s = 0 := ho.1 rfl
        simp [h1, h3, h6, h7, h8, h9, h10, h11, hb6, hb8]
        intro b hb
        simp at hb
        simp [h1, h3, h6, h7, h8, h9, h10, h11, hb6, hb8, hb]
        intro p hp
        simp at hp
        simp [h1, h3, h6, h7, h8, h9, h10, h11, hb6, hb8, hb, hp]
        by_cases hg : 0 < good.length
        · have hg1 : good[0]?.getD false = good[0] := by simp [hg]
          simp [h1, h3, h6, h7, h8, h9, h10, h11, hb6, hb8, hb, hp, hg]
          intro b2 hb2
          simp at hb2
          simp [h1, h3, h6, h7, h8, h9, h10, h11, hb6, hb8, hb, hp, hb2, hg]
          intro q hq
          simp at hq
          simp [h1, h3, h6, h7, h8, h9, h10, h11, hb6, hb8, hb, hp, hb2, hq, hg, hw]
          refine turnA_to (((((AHeap.empty.upd b3 (.cells [.int .i64 l, .sl next.length (next.map intsA), .sl good.length (good.map .bool)])).upd b6 (.cells [.int .i64 0, .nilsl, .nilsl])).upd b8 (.cells [.int .i64 i, .osl p 0 1 1, .osl q 0 1 1])).upd p (.cells ((tameRows ⟨l, next, good⟩ n i 1).map natsA))).upd q (.cells ((tameGood ⟨l, next, good⟩ 1).map .bool))) ?_ ⟨1, by omega, by omega, some (p, q), by simp [h1, h3, h6, h7, h8, h9, h10, h11, hp, hq]⟩
          simp [hrow0, hgood0, hg1, tameRows, tameGood]
          repeat (first | exact Drop.refl _ | apply Drop.both | refine Drop.upd ?_ ?_)
          all_goals simp [hb, hb2, hp, hq]
        · have hg1 : good[0]?.getD false = false := by rw [List.getElem?_eq_none (by omega)]; rfl
          simp [h1, h3, h6, h7, h8, h9, h10, h11, hb6, hb8, hb, hp, hg]
          intro b2 hb2
          simp at hb2
          simp [h1, h3, h6, h7, h8, h9, h10, h11, hb6, hb8, hb, hp, hb2, hg]
          intro q hq
          simp at hq
          simp [h1, h3, h6, h7, h8, h9, h10, h11, hb6, hb8, hb, hp, hb2, hq, hg, hw]
          refine turnA_to (((((AHeap.empty.upd b3 (.cells [.int .i64 l, .sl next.length (next.map intsA), .sl good.length (good.map .bool)])).upd b6 (.cells [.int .i64 0, .nilsl, .nilsl])).upd b8 (.cells [.int .i64 i, .osl p 0 1 1, .osl q 0 1 1])).upd p (.cells ((tameRows ⟨l, next, good⟩ n i 1).map natsA))).upd q (.cells ((tameGood ⟨l, next, good⟩ 1).map .bool))) ?_ ⟨1, by omega, by omega, some (p, q), by simp [h1, h3, h6, h7, h8, h9, h10, h11, hp, hq]⟩
          simp [hrow0, hgood0, hg1, tameRows, tameGood]
          repeat (first | exact Drop.refl _ | apply Drop.both | refine Drop.upd ?_ ?_)
          all_goals simp [hb, hb2, hp, hq]
      · have ho1 := ho.2 p q rfl
        have hs1 : s + 1 ≤ n := by omega
        simp [h1, h3, h6, h7, h8, h9, h10, h11, hb6, hb8, ho1]
        intro b hb
        simp at hb
        simp [h1, h3, h6, h7, h8, h9, h10, h11, hb6, hb8, hb, ho1, hrow2]
        refine ⟨by omega, ?_⟩
        intro p' hp
        simp at hp
        simp [h1, h3, h6, h7, h8, h9, h10, h11, hb6, hb8, hb, hp, ho1]
        by_cases hg : s < good.length
        · have hg1 : good[s]?.getD false = good[s] := by simp [hg]
          simp [h1, h3, h6, h7, h8, h9, h10, h11, hb6, hb8, hb, hp, hg, ho1]
          intro b2 hb2
          simp at hb2
          simp [h1, h3, h6, h7, h8, h9, h10, h11, hb6, hb8, hb, hp, hb2, hg, ho1, hgood2]
          refine ⟨by omega, ?_⟩
          intro q' hq
          simp at hq
          simp [h1, h3, h6, h7, h8, h9, h10, h11, hb6, hb8, hb, hp, hb2, hq, hg, hw, ho1]
          refine turnA_to (((((AHeap.empty.upd b3 (.cells [.int .i64 l, .sl next.length (next.map intsA), .sl good.length (good.map .bool)])).upd b6 (.cells [.int .i64 0, .nilsl, .nilsl])).upd b8 (.cells [.int .i64 i, .osl p' 0 (s + 1) 1, .osl q' 0 (s + 1) 1])).upd p' (.cells ((tameRows ⟨l, next, good⟩ n i (s + 1)).map natsA))).upd q' (.cells ((tameGood ⟨l, next, good⟩ (s + 1)).map .bool))) ?_ ⟨s + 1, by omega, by omega, some (p', q'), by simp [h1, h3, h6, h7, h8, h9, h10, h11, hp, hq]⟩
          simp [hrow0, hgood0, hg1]
          repeat (first | exact Drop.refl _ | apply Drop.both | refine Drop.upd ?_ ?_)
          all_goals simp [hb, hb2, hp, hq]
        · have hg1 : good[s]?.getD false = false := by rw [List.getElem?_eq_none (by omega)]; rfl
          simp [h1, h3, h6, h7, h8, h9, h10, h11, hb6, hb8, hb, hp, hg, ho1]
          intro b2 hb2
          simp at hb2
          simp [h1, h3, h6, h7, h8, h9, h10, h11, hb6, hb8, hb, hp, hb2, hg, ho1, hgood2]
          refine ⟨by omega, ?_⟩
          intro q' hq
          simp at hq
          simp [h1, h3, h6, h7, h8, h9, h10, h11, hb6, hb8, hb, hp, hb2, hq, hg, hw, ho1]
          refine turnA_to (((((AHeap.empty.upd b3 (.cells [.int .i64 l, .sl next.length (next.map intsA), .sl good.length (good.map .bool)])).upd b6 (.cells [.int .i64 0, .nilsl, .nilsl])).upd b8 (.cells [.int .i64 i, .osl p' 0 (s + 1) 1, .osl q' 0 (s + 1) 1])).upd p' (.cells ((tameRows ⟨l, next, good⟩ n i (s + 1)).map natsA))).upd q' (.cells ((tameGood ⟨l, next, good⟩ (s + 1)).map .bool))) ?_ ⟨s + 1, by omega, by omega, some (p', q'), by simp [h1, h3, h6, h7, h8, h9, h10, h11, hp, hq]⟩
          simp [hrow0, hgood0, hg1]
          repeat (first | exact Drop.refl _ | apply Drop.both | refine Drop.upd ?_ ?_)
          all_goals simp [hb, hb2, hp, hq]
  · obtain rfl : s = n := by omega
    rcases o with _ | ⟨p, q⟩
    · have := ho.1 rfl; omega
    have ho1 := ho.2 p q rfl
    subst hh
    simp [h1, h3, h6, h7, h8, h9, hb6, hb8, ho1]
    have hl1 : (tameRows ⟨l, next, good⟩ s k s).length = s := by simp [tameRows]
    have hl2 : (tameGood ⟨l, next, good⟩ s).length = s := by simp [tameGood]
    refine finA_all 2 ?_
    simp [ho1, hl1, hl2, Dfa.av, nrowsA, boolsA, List.take_of_length_le]
end Go.Proofs
