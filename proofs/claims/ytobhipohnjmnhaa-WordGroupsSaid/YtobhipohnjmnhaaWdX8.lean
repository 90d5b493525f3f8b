/-
  Walk: the law WordGroups.
-/
import Derived.Test.YtobhipohnjmnhaaV7
import Derived.Test.YtobhipohnjmnhaaWdGrL
import Derived.Test.YtobhipohnjmnhaaV6
set_option linter.unusedSimpArgs false
set_option linter.unusedVariables false
set_option linter.unusedSectionVars false
namespace Go.Proofs
open Go Go.AH
set_option maxRecDepth 10000
set_option maxHeartbeats 4000000

/-- How a group witness is told, in a form for both ends. -/
structure GrpSt (m : Dfa) (K : List (List UInt8)) (ok : Bool) (w : List UInt8) (p : Int) : Prop where
  yes : ok = true → grpB m w p = true ∧ w.length ≤ 5000
  no : ok = false → w = [] ∧ p = 0
  free : freeF (K.map natL) = !ok

structure GrG where
  k : Nat
  w : List UInt8
  q : Int
theorem grp_st {m : Dfa} (hm : m.ok) {st : List (List UInt8) × List (List Nat)} (e : monF (leastF m) = some st) : ∃ ok w p, grpA (leastF m) = .tup [.str w, .int .i64 p, .bool ok, .int .i64 0] ∧ GrpSt m st.1 ok w p := by
  have hn128 : (leastF m).next.length ≤ 128 := by have := least_n hm.wf; have := hm.n64; omega
  have o := mon_ok (least_canon hm.wf).wf hn128 e
  have hfr := free_all (K := st.1) fun x hx b hb => by
    obtain ⟨h1, h2⟩ := o.inv x hx
    rw [h2]; exact h1 b hb
  unfold grpA
  rw [e]
  cases hg : grpF st.1 with
  | none =>
    rw [hg] at hfr
    simp only [hg]
    exact ⟨false, [], 0, rfl, ⟨fun h => (by cases h), fun _ => ⟨rfl, rfl⟩, hfr⟩⟩
  | some v =>
    obtain ⟨i, p⟩ := v
    rw [hg] at hfr
    simp only [hg]
    exact ⟨true, _, (p : Int), rfl, ⟨fun _ => group_is hm e hg, fun h => (by cases h), hfr⟩⟩

theorem w_WordGroups (a : RAuto) (hs : a.sized) (x : List UInt8) (hx : x.length ≤ 4611686018427387904) (p : Int) : Pure Try.prog 8 [a.av, .str x, .int .i64 p] (.bool true) := by
  refine pure_of (acalls_of Try.func8 rfl Try.call8 (by kernel_rfl) (by show _ ≤ (142 : Nat); simp) ?_)
  obtain ⟨hl1, hl4⟩ := letters_bd a.letters
  have cl := w_letters a.letters
  obtain ⟨K, hK⟩ : ∃ K : Nat, lettersF a.letters = K := ⟨(lettersF a.letters).toNat, by omega⟩
  rw [hK] at cl hl1 hl4
  have ct := w_tame a hs K 5 (by omega) (by omega) (by omega)
  have hmok := tame_ok a K 5 (by omega) (by omega) (by omega)
  generalize tameF a K 5 = m at ct hmok
  have hmw := hmok.wf
  have ha : a.av = .agg [.int .i64 a.letters, rowsA a.next, boolsA a.good] := rfl
  rw [ha] at ct ⊢
  have cg := w_give (m.k : Int) (nrowsA m.next) (boolsA m.good) (by simp) (by simp) (by simp) (by simp) (by simp) (by simp)
  have cM := w_Monoid m hmok
  have cG := w_Group m hmok
  have cR := w_refMonoid m hmok
  have cI := w_IsGroup m hmok
  have cJ := w_refIsGroup m hmok
  have hk1 := hmok.k1; have hk4 := hmok.k4
  have cT := fun (s : List UInt8) (hs : s.length ≤ 4611686018427387904) => w_text s hs m.k 20 hk1 hk4 (by omega)
  have hn128 : (leastF m).next.length ≤ 128 := by have := least_n hmw; have := hmok.n64; omega
  unfold rmonA at cR
  simp only [Dfa.av] at cM cG cR cI cJ ct
  simp
  intro b2 hb2
  simp
  refine awp_draw_text (by kernel_rfl) [22, 23] [(.fn (.func 16) [] [], [.int .i64 a.letters], .int .i64 K), (.fn (.func 15) [] [], [.agg [.int .i64 a.letters, rowsA a.next, boolsA a.good], .int .i64 K, .int .i64 5], .agg [.int .i64 m.k, nrowsA m.next, boolsA m.good])] (by kernel_rfl) (by kernel_rfl) (by simp; exact ⟨PureV.of cl, PureV.of ct⟩) ?_
  simp
  intro b5 hb5
  simp at hb5
  simp [hb5]
  refine cg.use ?_
  simp
  intro b6 hb6
  simp at hb6
  simp [hb5, hb6]
  refine cM.use ?_
  cases hmon : monF (leastF m) with
  | none =>
    rw [hmon] at cR
    have hgn : grpA (leastF m) = .tup [.str [], .int .i64 0, .bool false, .int .i64 21] := by unfold grpA; rw [hmon]
    rw [hgn] at cG
    simp [hb5, hb6]
    refine cG.use ?_
    simp [hb5, hb6]
    refine cR.use ?_
    simp [hb5, hb6]
    refine awp_loop_g (γ := GrG) (fun g t h => (g.k ≤ 3) ∧ (g.w.length ≤ 4611686018427387904) ∧ t 1 = .str g.w ∧ t 2 = .int .i64 g.q ∧ t 7 = .ptr b5 0 ∧ t 8 = .ptr b6 0 ∧ t 18 = .int .i64 g.k ∧ h = ((AHeap.empty.upd b2 (.cells [.int .i64 a.letters, rowsA a.next, boolsA a.good])).upd b5 (.cells [.int .i64 m.k, nrowsA m.next, boolsA m.good])).upd b6 (.cells [.int .i64 m.k, nrowsA m.next, boolsA m.good])) (fun g => 3 - g.k) (⟨0, x, p⟩) (turnA_self (by simp [hx, hb5, hb6])) ?_
    rintro g t h ⟨hk, hw, h1, h2, h7, h8, h18, rfl⟩
    obtain ⟨k, w, q⟩ := g
    simp only at h1 h2 h7 h8 h18 hk hw
    by_cases hlt : k < 3
    · have hltI : (k : Int) < 3 := by omega
      have hwk : IntKind.i64.wrap ((k : Int) + 1) = (k : Int) + 1 := wrap_i64 (by omega) (by omega)
      simp [h1, h2, h7, h8, h18, hltI, hlt]
      refine awp_draw_text (by kernel_rfl) [121, 125] [(.fn (.func 48) [] [], [.agg [.int .i64 m.k, nrowsA m.next, boolsA m.good], .str w, .int .i64 q], .bool (grpB m w q)), (.fn (.func 47) [] [], [.agg [.int .i64 m.k, nrowsA m.next, boolsA m.good], .str w, .int .i64 q], .bool (grpB m w q))] (by kernel_rfl) (by kernel_rfl) (by simp; exact ⟨PureV.of (cI w hw q), PureV.of (cJ w hw q)⟩) ?_
      simp [h1, h2, h7, h8, h18, hb5, hb6]
      have ct2 := cT w hw
      have htl : (textF m.k 20 w).length ≤ 20 := by simp [textF]; omega
      refine ct2.use ?_
      generalize textF m.k 20 w = w2 at htl
      by_cases h0 : k = 0
      · subst h0
        simp [h1, h2, h7, h8, h18, hb5, hb6]
        refine turnA_self ⟨⟨1, w2, _⟩, by simp only; omega, by simp only; omega, by simp only; omega, by simp [h1, h2, h7, h8, h18]; rfl⟩
      · have h0I : ¬ (k : Int) = 0 := by omega
        have hl2 : w2.length + w2.length < 4611686018427387904 := by omega
        simp [h1, h2, h7, h8, h18, hb5, hb6, h0I, h0, hl2]
        refine turnA_self ⟨⟨k + 1, w2 ++ w2, q⟩, by simp only; omega, by simp only; omega, by simp; omega, by simp [h1, h2, h7, h8, h18, hwk]⟩
    · obtain rfl : k = 3 := by omega
      simp [h1, h2, h7, h8, h18]
      refine w_awake.use ?_
      simp
      exact finA_drop rfl
  | some st =>
    obtain ⟨ok, w0, p0, hgA, hgs⟩ := grp_st hmok hmon
    obtain ⟨keys, rows⟩ := st
    have o := mon_ok (least_canon hmw).wf hn128 hmon
    have hle := o.le
    have hKinv := o.inv
    rw [hmon] at cR
    rw [hgA] at cG
    simp only at cR cG hgs hle hKinv
    have hfr := hgs.free
    have cF := w_refFree (keys.map natL) (by simp; omega) fun r hr => by
      obtain ⟨y, hy, rfl⟩ := List.mem_map.1 hr
      obtain ⟨h1, h2⟩ := hKinv y hy
      refine ⟨by simp; omega, fun z hz => ?_⟩
      obtain ⟨b, hb, rfl⟩ := List.mem_map.1 hz
      simp only [natL_len, h2]
      exact h1 b hb
    rw [hfr] at cF
    have hKA : nrowsA (keys.map natL) = .sl keys.length ((keys.map natL).map natsA) := by simp [nrowsA]
    rw [hKA] at cR cF
    generalize (keys.map natL).map natsA = RL at cR cF
    simp [hb5, hb6]
    refine cG.use ?_
    simp [hb5, hb6]
    refine cR.use ?_
    simp [hb5, hb6]
    refine cF.use ?_
    cases ok with
    | true =>
      obtain ⟨y1, y2⟩ := hgs.yes rfl
      have cI2 := cI w0 (by omega) p0
      have cJ2 := cJ w0 (by omega) p0
      rw [y1] at cI2 cJ2
      simp [hb5, hb6]
      refine cJ2.use ?_
      simp [hb5, hb6]
      refine cI2.use ?_
      simp [hb5, hb6]
      refine awp_loop_g (γ := GrG) (fun g t h => (g.k ≤ 3) ∧ (g.w.length ≤ 4611686018427387904) ∧ t 1 = .str g.w ∧ t 2 = .int .i64 g.q ∧ t 7 = .ptr b5 0 ∧ t 8 = .ptr b6 0 ∧ t 18 = .int .i64 g.k ∧ h = ((AHeap.empty.upd b2 (.cells [.int .i64 a.letters, rowsA a.next, boolsA a.good])).upd b5 (.cells [.int .i64 m.k, nrowsA m.next, boolsA m.good])).upd b6 (.cells [.int .i64 m.k, nrowsA m.next, boolsA m.good])) (fun g => 3 - g.k) (⟨0, x, p⟩) (turnA_self (by simp [hx, hb5, hb6])) ?_
      rintro g t h ⟨hk, hw, h1, h2, h7, h8, h18, rfl⟩
      obtain ⟨k, w, q⟩ := g
      simp only at h1 h2 h7 h8 h18 hk hw
      by_cases hlt : k < 3
      · have hltI : (k : Int) < 3 := by omega
        have hwk : IntKind.i64.wrap ((k : Int) + 1) = (k : Int) + 1 := wrap_i64 (by omega) (by omega)
        simp [h1, h2, h7, h8, h18, hltI, hlt]
        refine awp_draw_text (by kernel_rfl) [121, 125] [(.fn (.func 48) [] [], [.agg [.int .i64 m.k, nrowsA m.next, boolsA m.good], .str w, .int .i64 q], .bool (grpB m w q)), (.fn (.func 47) [] [], [.agg [.int .i64 m.k, nrowsA m.next, boolsA m.good], .str w, .int .i64 q], .bool (grpB m w q))] (by kernel_rfl) (by kernel_rfl) (by simp; exact ⟨PureV.of (cI w hw q), PureV.of (cJ w hw q)⟩) ?_
        simp [h1, h2, h7, h8, h18, hb5, hb6]
        have ct2 := cT w hw
        have htl : (textF m.k 20 w).length ≤ 20 := by simp [textF]; omega
        refine ct2.use ?_
        generalize textF m.k 20 w = w2 at htl
        by_cases h0 : k = 0
        · subst h0
          simp [h1, h2, h7, h8, h18, hb5, hb6]
          refine turnA_self ⟨⟨1, w2, _⟩, by simp only; omega, by simp only; omega, by simp only; omega, by simp [h1, h2, h7, h8, h18]; rfl⟩
        · have h0I : ¬ (k : Int) = 0 := by omega
          have hl2 : w2.length + w2.length < 4611686018427387904 := by omega
          simp [h1, h2, h7, h8, h18, hb5, hb6, h0I, h0, hl2]
          refine turnA_self ⟨⟨k + 1, w2 ++ w2, q⟩, by simp only; omega, by simp only; omega, by simp; omega, by simp [h1, h2, h7, h8, h18, hwk]⟩
      · obtain rfl : k = 3 := by omega
        simp [h1, h2, h7, h8, h18]
        refine w_awake.use ?_
        simp
        exact finA_drop rfl
    | false =>
      obtain ⟨rfl, rfl⟩ := hgs.no rfl
      simp [hb5, hb6]
      refine awp_loop_g (γ := GrG) (fun g t h => (g.k ≤ 3) ∧ (g.w.length ≤ 4611686018427387904) ∧ t 1 = .str g.w ∧ t 2 = .int .i64 g.q ∧ t 7 = .ptr b5 0 ∧ t 8 = .ptr b6 0 ∧ t 18 = .int .i64 g.k ∧ h = ((AHeap.empty.upd b2 (.cells [.int .i64 a.letters, rowsA a.next, boolsA a.good])).upd b5 (.cells [.int .i64 m.k, nrowsA m.next, boolsA m.good])).upd b6 (.cells [.int .i64 m.k, nrowsA m.next, boolsA m.good])) (fun g => 3 - g.k) (⟨0, x, p⟩) (turnA_self (by simp [hx, hb5, hb6])) ?_
      rintro g t h ⟨hk, hw, h1, h2, h7, h8, h18, rfl⟩
      obtain ⟨k, w, q⟩ := g
      simp only at h1 h2 h7 h8 h18 hk hw
      by_cases hlt : k < 3
      · have hltI : (k : Int) < 3 := by omega
        have hwk : IntKind.i64.wrap ((k : Int) + 1) = (k : Int) + 1 := wrap_i64 (by omega) (by omega)
        simp [h1, h2, h7, h8, h18, hltI, hlt]
        refine awp_draw_text (by kernel_rfl) [121, 125] [(.fn (.func 48) [] [], [.agg [.int .i64 m.k, nrowsA m.next, boolsA m.good], .str w, .int .i64 q], .bool (grpB m w q)), (.fn (.func 47) [] [], [.agg [.int .i64 m.k, nrowsA m.next, boolsA m.good], .str w, .int .i64 q], .bool (grpB m w q))] (by kernel_rfl) (by kernel_rfl) (by simp; exact ⟨PureV.of (cI w hw q), PureV.of (cJ w hw q)⟩) ?_
        simp [h1, h2, h7, h8, h18, hb5, hb6]
        have ct2 := cT w hw
        have htl : (textF m.k 20 w).length ≤ 20 := by simp [textF]; omega
        refine ct2.use ?_
        generalize textF m.k 20 w = w2 at htl
        by_cases h0 : k = 0
        · subst h0
          simp [h1, h2, h7, h8, h18, hb5, hb6]
          refine turnA_self ⟨⟨1, w2, _⟩, by simp only; omega, by simp only; omega, by simp only; omega, by simp [h1, h2, h7, h8, h18]; rfl⟩
        · have h0I : ¬ (k : Int) = 0 := by omega
          have hl2 : w2.length + w2.length < 4611686018427387904 := by omega
          simp [h1, h2, h7, h8, h18, hb5, hb6, h0I, h0, hl2]
          refine turnA_self ⟨⟨k + 1, w2 ++ w2, q⟩, by simp only; omega, by simp only; omega, by simp; omega, by simp [h1, h2, h7, h8, h18, hwk]⟩
      · obtain rfl : k = 3 := by omega
        simp [h1, h2, h7, h8, h18]
        refine w_awake.use ?_
        simp
        exact finA_drop rfl
end Go.Proofs
