/-
  Walks: Accepts, and the reference's Word, From, Accepts; a word made of any string.
-/
import Derived.Test.YtobhipohnjmnhaaWdAcc
import Derived.Test.YtobhipohnjmnhaaWdR2
import Derived.Test.YtobhipohnjmnhaaV3
set_option linter.unusedSimpArgs false
set_option linter.unusedVariables false
set_option linter.unusedSectionVars false
namespace Go.Proofs
open Go Go.AH
set_option maxRecDepth 10000
set_option maxHeartbeats 4000000

theorem not_bad {k : Nat} {w : List UInt8} (h : wordErr k w = 0) : (∀ b ∈ w, badB k b = false) ∧ w.length ≤ 5000 := by
  unfold wordErr at h
  split at h
  · cases h
  · next h1 =>
    split at h
    · cases h
    · exact ⟨fun b hb => by simpa using (List.any_eq_false.1 (by simpa using h1)) b hb, by omega⟩
theorem wordErr_cases (k : Nat) (w : List UInt8) : wordErr k w = 0 ∨ wordErr k w = 1 ∨ wordErr k w = 2 := by
  unfold wordErr
  split
  · exact .inr (.inl rfl)
  · split
    · exact .inr (.inr rfl)
    · exact .inl rfl
theorem wordsErr_one (k : Nat) (w : List UInt8) : wordsErr k [w] = wordErr k w := by
  simp only [wordsErr]; split
  · rfl
  · next h => simp at h; omega

/-- Whether a word is accepted, or the error. -/
def acceptsA (m : Dfa) (w : List UInt8) : AV := if wordErr m.k w = 0 then .tup [.bool (accW m (lts w)), .int .i64 0] else .tup [.bool false, .int .i64 (wordErr m.k w)]
theorem w_Accepts (m : Dfa) (hm : m.ok) (w : List UInt8) (hw : w.length ≤ 4611686018427387904) : Pure Try.prog 30 [m.av, .str w] (acceptsA m w) := by
  refine pure_of (acalls_of Try.func30 rfl Try.call30 (by kernel_rfl) (by show _ ≤ (28 : Nat); simp) ?_)
  have c1 := w_check m hm
  have hwf := hm.wf
  have hn1 := hwf.n1
  have c2 := w_checkWord m.k hm.k4 [w] (by simp) (by simp [hw])
  rw [wordsErr_one] at c2
  have c3 := fun (hg : ∀ b ∈ w, badB m.k b = false) => w_from m hwf 0 (by omega) w hw hg
  have hgo := fun (hg : ∀ b ∈ w, badB m.k b = false) => goW_lt hwf (lts (w.take w.length)) 0 (by omega) (lts_take_ok hg _)
  simp only [Dfa.av] at c1 c2 c3 ⊢
  simp only [List.map_cons, List.map_nil, List.length_singleton, List.take_length] at c2 hgo
  unfold acceptsA accW
  simp
  intro b2 hb2
  simp
  refine c1.use ?_
  simp
  intro b16 hb16
  simp at hb16
  simp [hb16]
  refine ACalls.turn 1 (AHeap.empty.upd b2 (.cells [.int .i64 m.k, nrowsA m.next, boolsA m.good])) (SubH.one (cs := [.int .i64 m.k, nrowsA m.next, boolsA m.good]) 1 _ (by simp [hb16]) (by simp [frzF, nrowsA, boolsA])) ?_
  have hargs : ([.int .i64 m.k, .osl b16 0 1 1] : List AV).map (frzF 1 ((AHeap.empty.upd b2 (.cells [.int .i64 m.k, nrowsA m.next, boolsA m.good])).upd b16 (.cells [.str w])) (AHeap.empty.upd b2 (.cells [.int .i64 m.k, nrowsA m.next, boolsA m.good]))) = [.int .i64 m.k, .sl 1 [.str w]] := by simp [frzF, hb16]
  rw [hargs]
  refine c2.use ?_
  rcases wordErr_cases m.k w with e | e | e
  · obtain ⟨hg, hl⟩ := not_bad e
    have c4 := c3 hg
    have hgl := hgo hg
    simp [e]
    refine awp_draw_text (by kernel_rfl) [25] [(.fn (.func 76) [] [], [.agg [.int .i64 m.k, nrowsA m.next, boolsA m.good], .int .i64 0, .str w], .int .i64 (goW m 0 (lts w) : Nat))] (by kernel_rfl) (by kernel_rfl) (by simp; exact PureV.of c4) ?_
    have hgg : goW m 0 (lts w) < m.good.length := by rw [hwf.gl]; exact hgl
    simp [boolsA, hgg]
    exact finA_drop rfl
  · simp [e]
    exact finA_drop rfl
  · simp [e]
    exact finA_drop rfl

theorem w_refWord (k : Nat) (h4 : k ≤ 4) (w : List UInt8) (hw : w.length ≤ 4611686018427387904) : Pure Try.prog 31 [.int .i64 k, .str w] (.int .i64 (wordErr k w)) := by
  refine pure_of (acalls_of Try.func31 rfl Try.call31 (by kernel_rfl) (by show _ ≤ (28 : Nat); simp) ?_)
  simp
  refine awp_loop_g (γ := Nat) (fun p t h => (p ≤ w.length) ∧ (∀ j (hj : j < w.length), j < p → badB k w[j] = false) ∧ t 0 = .int .i64 k ∧ t 1 = .str w ∧ t 5 = .int .i64 p ∧ h = AHeap.empty) (fun p => w.length - p) (0) (turnA_self (by simp)) ?_
  rintro p t h ⟨hp, hgood, h0, h1, h5, rfl⟩
  by_cases hlp : p < w.length
  · have hany := any_bad (k := k) hlp
    have hwi : IntKind.i64.wrap ((p : Int) + 1) = (p : Int) + 1 := wrap_i64 (by omega) (by omega)
    have hu := (w[p]).toNat_lt
    by_cases e1 : w[p].toNat < 97
    · have he1 : wordErr k w = 1 := by rw [wordErr, if_pos (hany (by simp [badB, e1]))]
      have e1' : (w[p].toNat : Int) < 97 := by omega
      simp [h0, h1, h5, hlp, e1']
      exact finA_self (by rw [he1])
    · have e1' : ¬ (w[p].toNat : Int) < 97 := by omega
      have hws : IntKind.u8.wrap ((w[p].toNat : Int) - 97) = (w[p].toNat : Int) - 97 := wrap_u8 (by omega) (by omega)
      have hws2 : IntKind.i64.wrap ((w[p].toNat : Int) - 97) = (w[p].toNat : Int) - 97 := wrap_i64 (by omega) (by omega)
      by_cases e2 : 97 + k ≤ w[p].toNat
      · have he1 : wordErr k w = 1 := by rw [wordErr, if_pos (hany (by simp [badB, e2]))]
        have e2' : (k : Int) ≤ (w[p].toNat : Int) - 97 := by omega
        simp [h0, h1, h5, hlp, e1', e2', hws, hws2]
        exact finA_self (by rw [he1])
      · have e2' : ¬ (k : Int) ≤ (w[p].toNat : Int) - 97 := by omega
        simp [h0, h1, h5, hlp, e1', e2', hws, hws2]
        refine turnA_self ⟨p + 1, by omega, by omega, fun j hj hjp => ?_, by simp [h0, h1, h5, hwi]⟩
        by_cases e : j = p
        · subst e; simp [badB]; omega
        · exact hgood j hj (by omega)
  · obtain rfl : p = w.length := by omega
    have hno : w.any (badB k) = false := by
      rw [List.any_eq_false]
      intro x hx
      obtain ⟨j, hj, rfl⟩ := List.mem_iff_getElem.1 hx
      simp [hgood j hj (by omega)]
    by_cases hlong : 5000 < w.length
    · have hlong2 : (5000 : Int) < w.length := by omega
      have he1 : wordErr k w = 2 := by rw [wordErr, hno, if_neg (by simp), if_pos hlong]
      simp [h0, h1, h5, hlong, hlong2]
      exact finA_self (by rw [he1])
    · have hlong2 : ¬ (5000 : Int) < w.length := by omega
      have he1 : wordErr k w = 0 := by rw [wordErr, hno, if_neg (by simp), if_neg hlong]
      simp [h0, h1, h5, hlong, hlong2]
      exact finA_self (by rw [he1])

theorem w_refFrom (m : Dfa) (hm : m.wf) (s : Nat) (hs : s < m.next.length) (w : List UInt8) (hw : w.length ≤ 4611686018427387904) (hg : ∀ b ∈ w, badB m.k b = false) : Pure Try.prog 38 [m.av, .int .i64 s, .str w] (.int .i64 (goW m s (lts w) : Nat)) := by
  refine pure_of (acalls_of Try.func38 rfl Try.call38 (by kernel_rfl) (by show _ ≤ (27 : Nat); simp) ?_)
  have hk4 := hm.k4
  simp [Dfa.av]
  intro b3 hb3
  simp
  refine awp_loop_g (γ := Nat) (fun p t h => (p ≤ w.length) ∧ t 1 = .int .i64 (goW m s (lts (w.take p)) : Nat) ∧ t 2 = .str w ∧ t 3 = .ptr b3 0 ∧ t 7 = .int .i64 p ∧ h = AHeap.empty.upd b3 (.cells [.int .i64 m.k, nrowsA m.next, boolsA m.good])) (fun p => w.length - p) (0) (turnA_self (by simp [goW, lts])) ?_
  rintro p t h ⟨hp, h1, h2, h3, h7, rfl⟩
  have hgo : goW m s (lts (w.take p)) < m.next.length := goW_lt hm _ s hs (lts_take_ok hg p)
  by_cases hlp : p < w.length
  · have hgp := hg _ (List.getElem_mem hlp)
    have hu := (w[p]).toNat_lt
    simp only [badB, Bool.or_eq_false_iff, decide_eq_false_iff_not] at hgp
    have hsnoc := goW_lts_snoc m s w p hlp
    obtain ⟨g, hgE⟩ : ∃ g, g = goW m s (lts (w.take p)) := ⟨_, rfl⟩
    rw [← hgE] at hgo hsnoc
    obtain ⟨c, hcE⟩ : ∃ c, c = w[p].toNat - 97 := ⟨_, rfl⟩
    have hck : c < m.k := by omega
    have hws : IntKind.u8.wrap ((w[p].toNat : Int) - 97) = (c : Nat) := by rw [wrap_u8 (by omega) (by omega)]; omega
    have hws2 : IntKind.i64.wrap (c : Int) = c := wrap_i64 (by omega) (by omega)
    have hwi : IntKind.i64.wrap ((p : Int) + 1) = (p : Int) + 1 := wrap_i64 (by omega) (by omega)
    have hrow : m.next[g].length = m.k := hm.rl _ (List.getElem_mem hgo)
    have hval : goW m s (lts (w.take (p + 1))) = m.next[g][c] := by rw [hsnoc, ← hcE]; simp [hgo, hrow, hck]
    simp [h1, h2, h3, h7, hlp]
    refine awp_draw_text (by kernel_rfl) [] [] (by kernel_rfl) (by kernel_rfl) (by simp) ?_
    simp [h1, h2, h3, h7, hlp, ← hgE, hws, hws2, nrowsA, natsA, hgo, hrow, hck]
    exact turnA_self ⟨p + 1, by omega, by omega, by simp [h1, h2, h3, h7, hval, hwi]⟩
  · obtain rfl : p = w.length := by omega
    simp [h1, h2, h3, h7]
    exact finA_drop (by simp [lts])

theorem w_refAccepts (m : Dfa) (hm : m.wf) (w : List UInt8) (hw : w.length ≤ 4611686018427387904) (hg : ∀ b ∈ w, badB m.k b = false) : Pure Try.prog 32 [m.av, .str w] (.bool (accW m (lts w))) := by
  refine pure_of (acalls_of Try.func32 rfl Try.call32 (by kernel_rfl) (by show _ ≤ (12 : Nat); simp) ?_)
  have hn1 := hm.n1
  have c4 := w_refFrom m hm 0 (by omega) w hw hg
  have hgl := goW_lt hm (lts (w.take w.length)) 0 (by omega) (lts_take_ok hg _)
  rw [List.take_length] at hgl
  simp only [Dfa.av] at c4 ⊢
  unfold accW
  simp
  intro b2 hb2
  simp
  refine awp_draw_text (by kernel_rfl) [9] [(.fn (.func 38) [] [], [.agg [.int .i64 m.k, nrowsA m.next, boolsA m.good], .int .i64 0, .str w], .int .i64 (goW m 0 (lts w) : Nat))] (by kernel_rfl) (by kernel_rfl) (by simp; exact PureV.of c4) ?_
  have hgg : goW m 0 (lts w) < m.good.length := by rw [hm.gl]; exact hgl
  simp [boolsA, hgg]
  exact finA_drop rfl

/-- A word of any string. -/
def textF (k most : Nat) (s : List UInt8) : List UInt8 := (s.take most).map fun b => UInt8.ofNat (97 + b.toNat % k)
theorem textF_len (k most : Nat) (s : List UInt8) : (textF k most s).length ≤ most := by simp [textF]; omega
theorem textF_ok {k most : Nat} (h1 : 1 ≤ k) (h4 : k ≤ 4) (s : List UInt8) : ∀ b ∈ textF k most s, badB k b = false := by
  intro b hb
  obtain ⟨x, hx, rfl⟩ := List.mem_map.1 hb
  have : x.toNat % k < k := Nat.mod_lt _ (by omega)
  simp only [badB, UInt8.toNat_ofNat', Bool.or_eq_false_iff, decide_eq_false_iff_not]
  omega
theorem textF_noerr {k most : Nat} (h1 : 1 ≤ k) (h4 : k ≤ 4) (hm : most ≤ 5000) (s : List UInt8) : wordErr k (textF k most s) = 0 := by
  have h := textF_ok (most := most) h1 h4 s
  have hl := textF_len k most s
  unfold wordErr
  rw [if_neg (by rw [List.any_eq_true]; rintro ⟨x, hx, hb⟩; rw [h x hx] at hb; cases hb), if_neg (by omega)]

theorem w_text (s : List UInt8) (hs : s.length ≤ 4611686018427387904) (k most : Nat) (h1 : 1 ≤ k) (h4 : k ≤ 4) (hm : most ≤ 100000) : Pure Try.prog 33 [.str s, .int .i64 k, .int .i64 most] (.str (textF k most s)) := by
  refine pure_of (acalls_of Try.func33 rfl Try.call33 (by kernel_rfl) (by show _ ≤ (32 : Nat); simp) ?_)
  simp
  refine awp_loop_g (γ := Nat) (fun p t h => (p ≤ s.length) ∧ (p ≤ most) ∧ t 0 = .str s ∧ t 1 = .int .i64 k ∧ t 2 = .int .i64 most ∧ t 7 = .str (textF k p s) ∧ t 8 = .int .i64 p ∧ h = AHeap.empty) (fun p => s.length - p) (0) (turnA_self (by simp [textF])) ?_
  rintro p t h ⟨hp, hpm, h0, h1, h2, h7, h8, rfl⟩
  have hlen := textF_len k p s
  by_cases hlp : p < s.length
  · have hwi : IntKind.i64.wrap ((p : Int) + 1) = (p : Int) + 1 := wrap_i64 (by omega) (by omega)
    by_cases hlm : p < most
    · have hu := (s[p]).toNat_lt
      have hk8 : IntKind.u8.wrap (k : Int) = k := wrap_u8 (by omega) (by omega)
      have hrem : ((s[p].toNat : Int).tmod k) = (s[p].toNat % k : Nat) := by rw [Int.tmod_eq_emod_of_nonneg (by omega)]; omega
      have hmod : s[p].toNat % k < k := Nat.mod_lt _ (by omega)
      obtain ⟨c, hc⟩ : ∃ c, c = 97 + s[p].toNat % k := ⟨_, rfl⟩
      have hw8 : IntKind.u8.wrap (97 + (s[p].toNat : Int) % k) = (c : Nat) := by
        have : (s[p].toNat : Int) % k = (s[p].toNat % k : Nat) := by omega
        rw [this, wrap_u8 (by omega) (by omega)]; omega
      have hsucc : textF k (p + 1) s = textF k p s ++ [UInt8.ofNat (97 + s[p].toNat % k)] := by
        simp only [textF]; rw [← List.take_append_getElem hlp, List.map_append, List.map_cons, List.map_nil]
      have hk0 : ¬ k = 0 := by omega
      simp [h0, h1, h2, h7, h8, hlp, hlm, hk8, hrem, hw8, hk0]
      intro b hb
      have h3 : cellsOfSlice (AHeap.empty.upd b (.cells [.int .u8 c])) (.osl b 0 1 1) = some [.int .u8 c] := by simp [cellsOfSlice]
      have h4 : bytesOf [.int .u8 (c : Nat)] = some [UInt8.ofNat c] := by simp [bytesOf]
      rw [← hc] at hsucc
      simp [h0, h1, h2, h7, h8, h3, h4]
      refine ⟨fun _ => turnA_drop b ⟨p + 1, by omega, by omega, by omega, by simp [h0, h1, h2, h7, h8, hwi, hsucc]⟩, by omega⟩
    · simp [h0, h1, h2, h7, h8, hlp, hlm]
      obtain rfl : p = most := by omega
      exact finA_self rfl
  · obtain rfl : p = s.length := by omega
    simp [h0, h1, h2, h7, h8]
    exact finA_self (by simp [textF, List.take_of_length_le, hpm])
end Go.Proofs
