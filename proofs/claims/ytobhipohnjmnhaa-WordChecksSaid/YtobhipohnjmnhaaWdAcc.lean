/-
  Walks: whether words may be given, where they lead, whether they are accepted.
-/
import Derived.Test.YtobhipohnjmnhaaV2
import Derived.Test.YtobhipohnjmnhaaV3
import Derived.Test.YtobhipohnjmnhaaAhIn
import Derived.Laws.RangeString
import Derived.Laws.RangeAny
set_option linter.unusedSimpArgs false
set_option linter.unusedVariables false
set_option linter.unusedSectionVars false
namespace Go.Proofs
open Go Go.AH
set_option maxRecDepth 10000
set_option maxHeartbeats 4000000

/-- No letter of the first k. -/
def badB (k : Nat) (b : UInt8) : Bool := decide (b.toNat < 97) || decide (97 + k ≤ b.toNat)
def wordErr (k : Nat) (w : List UInt8) : Int := if w.any (badB k) then 1 else if 5000 < w.length then 2 else 0
def wordsErr (k : Nat) : List (List UInt8) → Int
  | [] => 0
  | w :: ws => if wordErr k w ≠ 0 then wordErr k w else wordsErr k ws
/-- The letters' numbers. -/
def lts (w : List UInt8) : List Nat := w.map fun b => b.toNat - 97

theorem dec_low (w : List UInt8) (pos : Nat) (h : pos < w.length) (ha : w[pos].toNat < 128) : Utf8.decode ⟨w.toArray⟩ pos = (w[pos].toNat, 1) :=
  decode_ascii ⟨w.toArray⟩ pos h ha
theorem dec_high (w : List UInt8) (pos : Nat) (h : pos < w.length) (ha : 128 ≤ w[pos].toNat) : 128 ≤ (Utf8.decode ⟨w.toArray⟩ pos).1 :=
  (decode_high ⟨w.toArray⟩ pos h ha).1
theorem any_bad {k : Nat} {w : List UInt8} {pos : Nat} (h : pos < w.length) (hb : badB k w[pos] = true) : w.any (badB k) = true := List.any_eq_true.2 ⟨_, List.getElem_mem h, hb⟩

theorem w_checkWord (k : Nat) (h4 : k ≤ 4) (ws : List (List UInt8)) (hn : ws.length ≤ 1000) (hw : ∀ w ∈ ws, w.length ≤ 4611686018427387904) : Pure Try.prog 75 [.int .i64 k, .sl ws.length (ws.map .str)] (.int .i64 (wordsErr k ws)) := by
  refine pure_of (acalls_of Try.func75 rfl Try.call75 (by kernel_rfl) (by show _ ≤ (33 : Nat); simp) ?_)
  simp
  refine awp_loop_g (γ := Nat) (fun i t h => (i ≤ ws.length) ∧ (wordsErr k ws = wordsErr k (ws.drop i)) ∧ t 0 = .int .i64 k ∧ t 9 = .sl ws.length (ws.map .str) ∧ t 10 = .int .i64 ws.length ∧ t 11 = .int .i64 i ∧ h = AHeap.empty) (fun i => ws.length - i) (0) (turnA_self (by simp)) ?_
  rintro i t h ⟨hi, he, h0, h9, h10, h11, rfl⟩
  by_cases hlt : i < ws.length
  · have hwi : IntKind.i64.wrap ((i : Int) + 1) = (i : Int) + 1 := wrap_i64 (by omega) (by omega)
    have hdrop : ws.drop i = ws[i] :: ws.drop (i + 1) := List.drop_eq_getElem_cons hlt
    have hwl := hw _ (List.getElem_mem hlt)
    rw [hdrop] at he
    simp only [wordsErr] at he
    obtain ⟨w, hwE⟩ : ∃ w, w = ws[i] := ⟨_, rfl⟩
    rw [← hwE] at he hwl
    simp [h0, h9, h10, h11, hlt, ← hwE]
    intro b hb
    simp
    refine awp_loop_g (γ := Nat) (fun p t h => (p ≤ w.length) ∧ (∀ j (hj : j < w.length), j < p → badB k w[j] = false) ∧ t 0 = .int .i64 k ∧ t 9 = .sl ws.length (ws.map .str) ∧ t 10 = .int .i64 ws.length ∧ t 11 = .int .i64 i ∧ t 6 = .str w ∧ t 16 = .ptr b 0 ∧ h = AHeap.empty.upd b (.sit w p)) (fun p => w.length - p) (0) (turnA_self (by simp [h0, h9, h10, h11])) ?_
    rintro p t h ⟨hp, hgood, h0, h9, h10, h11, h6, h16, rfl⟩
    simp [h0, h9, h10, h11, h6, h16]
    refine ⟨fun hlp => ?_, fun hlp => ?_⟩
    · have hany := any_bad (k := k) hlp
      by_cases hhi : 128 ≤ w[p].toNat
      · have hd := dec_high w p hlp hhi
        have hbad : badB k w[p] = true := by simp [badB]; omega
        have hwk : IntKind.i32.wrap (k : Int) = k := wrap_i32 (by omega) (by omega)
        have hwk2 : IntKind.i32.wrap (97 + (k : Int)) = 97 + k := wrap_i32 (by omega) (by omega)
        generalize (Utf8.decode ⟨w.toArray⟩ p) = d at hd
        have e1 : ¬ ((d.1 : Int) < 97) := by omega
        have e2 : 97 + (k : Int) ≤ d.1 := by omega
        have he1 : wordErr k w = 1 := by rw [wordErr, if_pos (hany hbad)]
        simp [h0, h9, h10, h11, h6, h16, hwk, hwk2, e1, e2]
        refine finA_drop ?_
        rw [he, he1]; rfl
      · have hd := dec_low w p hlp (by omega)
        have hwk : IntKind.i32.wrap (k : Int) = k := wrap_i32 (by omega) (by omega)
        have hwk2 : IntKind.i32.wrap (97 + (k : Int)) = 97 + k := wrap_i32 (by omega) (by omega)
        by_cases e1 : w[p].toNat < 97
        · have he1 : wordErr k w = 1 := by rw [wordErr, if_pos (hany (by simp [badB, e1]))]
          have e1' : (w[p].toNat : Int) < 97 := by omega
          simp [h0, h9, h10, h11, h6, h16, hwk, hwk2, hd, e1']
          refine finA_drop ?_
          rw [he, he1]; rfl
        · have e1' : ¬ (w[p].toNat : Int) < 97 := by omega
          by_cases e2 : 97 + k ≤ w[p].toNat
          · have he1 : wordErr k w = 1 := by rw [wordErr, if_pos (hany (by simp [badB, e2]))]
            have e2' : 97 + (k : Int) ≤ w[p].toNat := by omega
            simp [h0, h9, h10, h11, h6, h16, hwk, hwk2, hd, e1', e2']
            refine finA_drop ?_
            rw [he, he1]; rfl
          · have e2' : ¬ 97 + (k : Int) ≤ w[p].toNat := by omega
            simp [h0, h9, h10, h11, h6, h16, hwk, hwk2, hd, e1', e2']
            refine turnA_self ⟨p + 1, by omega, by omega, fun j hj hjp => ?_, by simp [h0, h9, h10, h11, h6, h16]⟩
            by_cases e : j = p
            · subst e; simp [badB]; omega
            · exact hgood j hj (by omega)
    · have hno : w.any (badB k) = false := by
        rw [List.any_eq_false]
        intro x hx
        obtain ⟨j, hj, rfl⟩ := List.mem_iff_getElem.1 hx
        simp [hgood j hj (by omega)]
      by_cases hlong : 5000 < w.length
      · have hlong2 : (5000 : Int) < w.length := by omega
        have he1 : wordErr k w = 2 := by rw [wordErr, hno, if_neg (by simp), if_pos hlong]
        simp [h0, h9, h10, h11, h6, h16, hlong, hlong2]
        refine finA_drop ?_
        rw [he, he1]; rfl
      · have hlong2 : ¬ (5000 : Int) < w.length := by omega
        have he1 : wordErr k w = 0 := by rw [wordErr, hno, if_neg (by simp), if_neg hlong]
        simp [h0, h9, h10, h11, h6, h16, hlong, hlong2]
        refine turnA_drop b ⟨i + 1, by omega, by omega, ?_, by simp [h0, h9, h10, h11, h6, h16, hwi]⟩
        rw [he, he1]; rfl
  · obtain rfl : i = ws.length := by omega
    simp [h0, h9, h10, h11]
    refine finA_self ?_
    rw [he]; simp [wordsErr]

theorem goW_lts_snoc (m : Dfa) (s : Nat) (w : List UInt8) (p : Nat) (hp : p < w.length) : goW m s (lts (w.take (p + 1))) = (m.next.getD (goW m s (lts (w.take p))) []).getD (w[p].toNat - 97) 0 := by
  rw [← List.take_append_getElem hp]
  simp only [lts, List.map_append, goW_app]; rfl
theorem lts_take_ok {k : Nat} {w : List UInt8} (hg : ∀ b ∈ w, badB k b = false) (p : Nat) : ∀ i ∈ lts (w.take p), i < k := by
  intro i hi
  obtain ⟨b, hb, rfl⟩ := List.mem_map.1 hi
  have := hg b (List.mem_of_mem_take hb)
  simp [badB] at this; omega

theorem w_from (m : Dfa) (hm : m.wf) (s : Nat) (hs : s < m.next.length) (w : List UInt8) (hw : w.length ≤ 4611686018427387904) (hg : ∀ b ∈ w, badB m.k b = false) : Pure Try.prog 76 [m.av, .int .i64 s, .str w] (.int .i64 (goW m s (lts w) : Nat)) := by
  refine pure_of (acalls_of Try.func76 rfl Try.call76 (by kernel_rfl) (by show _ ≤ (24 : Nat); simp) ?_)
  have hk4 := hm.k4
  simp [Dfa.av]
  intro b3 hb3
  simp
  intro b10 hb10
  simp at hb10
  simp
  refine awp_loop_g (γ := Nat) (fun p t h => (p ≤ w.length) ∧ t 1 = .int .i64 (goW m s (lts (w.take p)) : Nat) ∧ t 3 = .ptr b3 0 ∧ t 10 = .ptr b10 0 ∧ h = (AHeap.empty.upd b3 (.cells [.int .i64 m.k, nrowsA m.next, boolsA m.good])).upd b10 (.sit w p)) (fun p => w.length - p) (0) (turnA_self (by simp [goW, lts])) ?_
  rintro p t h ⟨hp, h1, h3, h10, rfl⟩
  have hgo : goW m s (lts (w.take p)) < m.next.length := goW_lt hm _ s hs (lts_take_ok hg p)
  simp [h1, h3, h10, hb10]
  refine ⟨fun hlp => ?_, fun hlp => ?_⟩
  · have hgp := hg _ (List.getElem_mem hlp)
    simp only [badB, Bool.or_eq_false_iff, decide_eq_false_iff_not] at hgp
    have hd := dec_low w p hlp (by omega)
    have hsnoc := goW_lts_snoc m s w p hlp
    obtain ⟨g, hgE⟩ : ∃ g, g = goW m s (lts (w.take p)) := ⟨_, rfl⟩
    rw [← hgE] at hgo hsnoc
    obtain ⟨c, hcE⟩ : ∃ c, c = w[p].toNat - 97 := ⟨_, rfl⟩
    have hck : c < m.k := by omega
    have hwc : IntKind.i32.wrap ((w[p].toNat : Int) - 97) = (c : Nat) := by rw [wrap_i32 (by omega) (by omega)]; omega
    have hrow : m.next[g].length = m.k := hm.rl _ (List.getElem_mem hgo)
    have hval : goW m s (lts (w.take (p + 1))) = m.next[g][c] := by rw [hsnoc, ← hcE]; simp [hgo, hrow, hck]
    simp [h1, h3, h10, hd, hb10, ← hgE, hwc, nrowsA, natsA, hgo, hrow, hck]
    exact turnA_self ⟨p + 1, by omega, by omega, by simp [h1, h3, h10, hval]⟩
  · obtain rfl : p = w.length := by omega
    simp [h1, h3, h10, hb10]
    exact finA_drop (by simp [lts])
end Go.Proofs
