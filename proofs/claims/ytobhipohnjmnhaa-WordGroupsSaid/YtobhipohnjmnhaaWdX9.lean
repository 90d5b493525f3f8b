/-
  Walk: the law WordLimits.
-/
import Derived.Test.YtobhipohnjmnhaaWdPart
import Derived.Test.YtobhipohnjmnhaaV6
set_option linter.unusedSimpArgs false
set_option linter.unusedVariables false
set_option linter.unusedSectionVars false
namespace Go.Proofs
open Go Go.AH
set_option maxRecDepth 10000
set_option maxHeartbeats 4000000

/-- A word that may not be given is no group witness. -/
theorem w_IsGroupBad (m : Dfa) (hm : m.ok) (w : List UInt8) (hw : w.length ≤ 4611686018427387904) (p : Int) (he : wordErr m.k w ≠ 0) : Pure Try.prog 48 [m.av, .str w, .int .i64 p] (.bool false) := by
  refine pure_of (acalls_of Try.func48 rfl Try.call48 (by kernel_rfl) (by show _ ≤ (57 : Nat); simp) ?_)
  have c1 := w_check m hm
  have c2 := w_checkWord m.k hm.k4 [w] (by simp) (by simp [hw])
  rw [wordsErr_one] at c2
  simp only [List.map_cons, List.map_nil, List.length_singleton] at c2
  simp only [Dfa.av] at c1 ⊢
  simp
  intro b3 hb3
  simp
  refine c1.use ?_
  simp
  intro b19 hb19
  simp at hb19
  simp [hb19]
  refine ACalls.turn 1 (AHeap.empty.upd b3 (.cells [.int .i64 m.k, nrowsA m.next, boolsA m.good])) (SubH.one (cs := [.int .i64 m.k, nrowsA m.next, boolsA m.good]) 1 _ (by simp [hb19]) (by simp [frzF, nrowsA, boolsA])) ?_
  have hargs : ([.int .i64 m.k, .osl b19 0 1 1] : List AV).map (frzF 1 ((AHeap.empty.upd b3 (.cells [.int .i64 m.k, nrowsA m.next, boolsA m.good])).upd b19 (.cells [.str w])) (AHeap.empty.upd b3 (.cells [.int .i64 m.k, nrowsA m.next, boolsA m.good]))) = [.int .i64 m.k, .sl 1 [.str w]] := by simp [frzF, hb19]
  rw [hargs]
  refine c2.use ?_
  simp [he]
  exact finA_drop rfl

/-- The letters of the long word. -/
def limC (n : Int) (k j : Nat) : Nat := 97 + ((j : Int) * j + n.tmod 7 + 7).toNat % k
def limW (n : Int) (k many : Nat) : List UInt8 := (List.range many).map fun j => UInt8.ofNat (limC n k j)
def limA (n : Int) (k many i : Nat) : List AV := (List.range many).map fun j => AV.int .u8 ((if j < i then limC n k j else 0 : Nat) : Int)
@[simp] theorem limA_len (n : Int) (k many i : Nat) : (limA n k many i).length = many := by simp [limA]
theorem limA_succ (n : Int) (k many i : Nat) (hi : i < many) : (limA n k many i).set i (.int .u8 (limC n k i : Nat)) = limA n k many (i + 1) := by
  refine List.ext_getElem (by simp) fun j h1 h2 => ?_
  rw [List.getElem_set]
  simp only [limA, List.getElem_map, List.getElem_range]
  split
  · next e => subst e; simp
  · next e =>
    by_cases h : j < i
    · rw [if_pos h, if_pos (by omega)]
    · rw [if_neg h, if_neg (by omega)]
theorem limA_zero (n : Int) (k many : Nat) : limA n k many 0 = List.replicate many (.int .u8 0) := by
  refine List.ext_getElem (by simp) fun j h1 h2 => ?_
  simp [limA]
theorem bytes_map (f : Nat → Nat) : ∀ l : List Nat, bytesOf (l.map fun j => AV.int .u8 (f j : Int)) = some (l.map fun j => UInt8.ofNat (f j))
  | [] => rfl
  | j :: l => by simp [bytesOf, byteOf, bytes_map f l]
theorem limA_bytes (n : Int) (k many : Nat) : bytesOf (limA n k many many) = some (limW n k many) := by
  have : limA n k many many = (List.range many).map fun j => AV.int .u8 (limC n k j : Int) := by
    refine List.map_congr_left fun j hj => ?_
    rw [if_pos (List.mem_range.1 hj)]
  rw [this]; exact bytes_map _ _

theorem w_WordLimits (a : RAuto) (hs : a.sized) (n : Int) (hn1 : -9223372036854775808 ≤ n) (hn2 : n ≤ 9223372036854775807) : Pure Try.prog 9 [a.av, .int .i64 n] (.bool true) := by
  refine pure_of (acalls_of Try.func9 rfl Try.call9 (by kernel_rfl) (by show _ ≤ (102 : Nat); simp) ?_)
  obtain ⟨hl1, hl4⟩ := letters_bd a.letters
  have cl := w_letters a.letters
  obtain ⟨K, hK⟩ : ∃ K : Nat, lettersF a.letters = K := ⟨(lettersF a.letters).toNat, by omega⟩
  rw [hK] at cl hl1 hl4
  have ct := w_tame a hs K 6 (by omega) (by omega) (by omega)
  have hmok := tame_ok a K 6 (by omega) (by omega) (by omega)
  generalize tameF a K 6 = m at ct hmok
  have hmw := hmok.wf
  have ha : a.av = .agg [.int .i64 a.letters, rowsA a.next, boolsA a.good] := rfl
  rw [ha] at ct ⊢
  have cg := w_give (m.k : Int) (nrowsA m.next) (boolsA m.good) (by simp) (by simp) (by simp) (by simp) (by simp) (by simp)
  simp only [Dfa.av] at ct
  simp
  intro b2 hb2
  simp
  refine awp_draw_text (by kernel_rfl) [18, 19] [(.fn (.func 16) [] [], [.int .i64 a.letters], .int .i64 K), (.fn (.func 15) [] [], [.agg [.int .i64 a.letters, rowsA a.next, boolsA a.good], .int .i64 K, .int .i64 6], .agg [.int .i64 m.k, nrowsA m.next, boolsA m.good])] (by kernel_rfl) (by kernel_rfl) (by simp; exact ⟨PureV.of cl, PureV.of ct⟩) ?_
  simp
  intro b5 hb5
  simp at hb5
  have hu := u64_nonneg n
  obtain ⟨r, hr⟩ : ∃ r : Nat, (IntKind.u64.wrap n).tmod 3 = (r : Int) := ⟨((IntKind.u64.wrap n).tmod 3).toNat, by rw [Int.tmod_eq_emod_of_nonneg hu.1]; omega⟩
  have hr3 : r < 3 := by rw [Int.tmod_eq_emod_of_nonneg hu.1] at hr; omega
  have hw1 : IntKind.i64.wrap (r : Int) = r := wrap_i64 (by omega) (by omega)
  obtain ⟨M, hM⟩ : ∃ M, M = 4999 + r := ⟨_, rfl⟩
  have hw2 : IntKind.i64.wrap (4999 + (r : Int)) = (M : Nat) := by rw [wrap_i64 (by omega) (by omega)]; omega
  simp [hb5, hr, hw1, hw2]
  refine ⟨by omega, ?_⟩
  intro b26 hb26
  simp at hb26
  simp [hb5, hb26, hw2]
  have hq1 : -6 ≤ n.tmod 7 ∧ n.tmod 7 ≤ 6 := by
    rcases Int.le_total 0 n with h | h
    · have := Int.tmod_eq_emod_of_nonneg (b := 7) h; omega
    · have h2 : n.tmod 7 = -((-n).tmod 7) := by rw [Int.neg_tmod]; omega
      have h3 := Int.tmod_eq_emod_of_nonneg (b := 7) (show 0 ≤ -n by omega)
      omega
  obtain ⟨q, hq⟩ : ∃ q, q = n.tmod 7 := ⟨_, rfl⟩
  have hk1 := hmok.k1; have hk4 := hmok.k4
  have h0 := limA_zero n m.k M
  rw [← h0]
  clear h0
  refine awp_loop_g (γ := Nat) (fun i t h => (i ≤ M) ∧ t 1 = .int .i64 n ∧ t 5 = .ptr b5 0 ∧ t 6 = .int .i64 M ∧ t 7 = .osl b26 0 M 1 ∧ t 8 = .int .i64 i ∧ h = ((AHeap.empty.upd b2 (.cells [.int .i64 a.letters, rowsA a.next, boolsA a.good])).upd b5 (.cells [.int .i64 m.k, nrowsA m.next, boolsA m.good])).upd b26 (.cells (limA n m.k M i))) (fun i => M - i) (0) (turnA_self (by simp)) ?_
  rintro i t h ⟨hi, h1, h5, h6, h7, h8, rfl⟩
  by_cases hlt : i < M
  · have hii : i * i ≤ 5001 * 5001 := Nat.mul_le_mul (by omega) (by omega)
    have hiI : (i : Int) * (i : Int) = ((i * i : Nat) : Int) := (Int.natCast_mul _ _).symm
    have v1 : IntKind.i64.wrap ((i : Int) * (i : Int)) = (i : Int) * (i : Int) := by rw [hiI]; exact wrap_i64 (by omega) (by omega)
    have v2 : IntKind.i64.wrap ((i : Int) * (i : Int) + n.tmod 7) = (i : Int) * (i : Int) + n.tmod 7 := by rw [hiI]; exact wrap_i64 (by omega) (by omega)
    have v3 : IntKind.i64.wrap ((i : Int) * (i : Int) + n.tmod 7 + 7) = (i : Int) * (i : Int) + n.tmod 7 + 7 := by rw [hiI]; exact wrap_i64 (by omega) (by omega)
    obtain ⟨e, he⟩ : ∃ e : Nat, (i : Int) * (i : Int) + n.tmod 7 + 7 = e := ⟨((i : Int) * (i : Int) + n.tmod 7 + 7).toNat, by rw [hiI]; omega⟩
    have hmod : e % m.k < m.k := Nat.mod_lt _ (by omega)
    have v4 : ((e : Int).tmod (m.k : Int)) = (e % m.k : Nat) := by rw [Int.tmod_eq_emod_of_nonneg (by omega)]; omega
    obtain ⟨d, hd⟩ : ∃ d, d = e % m.k := ⟨_, rfl⟩
    rw [← hd] at v4 hmod
    have v5 : IntKind.u8.wrap (d : Int) = d := wrap_u8 (by omega) (by omega)
    obtain ⟨c, hc⟩ : ∃ c, c = limC n m.k i := ⟨_, rfl⟩
    have hcd : c = 97 + d := by rw [hc, limC, he, hd]; simp
    have v6 : IntKind.u8.wrap (97 + (d : Int)) = (c : Nat) := by rw [wrap_u8 (by omega) (by omega)]; omega
    have hset := limA_succ n m.k M i hlt
    rw [← hc] at hset
    have hwi : IntKind.i64.wrap ((i : Int) + 1) = (i : Int) + 1 := wrap_i64 (by omega) (by omega)
    have hk0 : ¬ m.k = 0 := by omega
    have v3b : IntKind.i64.wrap (e : Int) = e := by rw [← he]; exact v3
    simp [h1, h5, h6, h7, h8, hlt, hb5, hb26, v1, v2, v3, v3b, he, v4, v5, v6, hk0]
    exact ⟨by omega, turnA_self ⟨i + 1, by omega, by omega, by simp [h1, h5, h6, h7, h8, hwi, hset, v3b, v4, v5, v6]⟩⟩
  · obtain rfl : i = M := by omega
    have hby := limA_bytes n m.k i
    have hcs : cellsOfSlice (((AHeap.empty.upd b2 (.cells [.int .i64 a.letters, rowsA a.next, boolsA a.good])).upd b5 (.cells [.int .i64 m.k, nrowsA m.next, boolsA m.good])).upd b26 (.cells (limA n m.k i i))) (.osl b26 0 i 1) = some (limA n m.k i i) := by simp [cellsOfSlice, List.take_of_length_le]
    have hwl : (limW n m.k i).length = i := by simp [limW]
    have hbad : ∀ b ∈ limW n m.k i, badB m.k b = false := by
      intro b hb
      obtain ⟨j, hj, rfl⟩ := List.mem_map.1 hb
      have : ((j : Int) * j + n.tmod 7 + 7).toNat % m.k < m.k := Nat.mod_lt _ (by omega)
      have h9 : 97 ≤ limC n m.k j ∧ limC n m.k j < 97 + m.k := by unfold limC; exact ⟨Nat.le_add_right _ _, Nat.add_lt_add_left this _⟩
      have h8 : (UInt8.ofNat (limC n m.k j)).toNat = limC n m.k j := by rw [UInt8.toNat_ofNat']; omega
      simp only [badB, h8, Bool.or_eq_false_iff, decide_eq_false_iff_not]
      omega
    simp [h1, h5, h6, h7, h8, hcs, hby]
    obtain ⟨w, hw⟩ : ∃ w, w = limW n m.k i := ⟨_, rfl⟩
    rw [← hw] at hwl hbad ⊢
    have hany : ¬ (w.any (badB m.k)) = true := by rw [List.any_eq_true]; rintro ⟨x, hx, hb⟩; rw [hbad x hx] at hb; cases hb
    have cA := w_Accepts m hmok w (by omega)
    have cP := w_Part m hmok [97] w (by simp) (by omega)
    have e97 : wordErr m.k [97] = 0 := by
      unfold wordErr
      have : ¬ (([97] : List UInt8).any (badB m.k)) = true := by simp [badB]; omega
      rw [if_neg this]; rfl
    unfold acceptsA at cA
    unfold partA at cP
    generalize partF m (goW m 0 (lts [97])) (goW m 0 (lts w)) = Q at cP
    replace cP : AH.Pure Try.prog 36 [m.av, .str [97], .str w] (if wordsErr m.k [[97], w] = 0 then .tup [.str (Q.getD []), .bool Q.isSome, .int .i64 0] else .tup [.str [], .bool false, .int .i64 (wordsErr m.k [[97], w])]) := by cases Q <;> exact cP
    simp only [Dfa.av] at cA cP
    simp [h1, h5, h6, h7, h8, hb5, hb26]
    refine cg.use ?_
    simp [h1, h5, h6, h7, h8]
    refine cA.use ?_
    by_cases hlong : 5000 < i
    · have ew : wordErr m.k w = 2 := by unfold wordErr; rw [if_neg hany, if_pos (by omega)]
      have epw : wordsErr m.k [[97], w] = 2 := by simp [wordsErr, e97, ew]
      have cI := w_IsGroupBad m hmok w (by omega) 2 (by rw [ew]; omega)
      simp only [Dfa.av] at cI
      have hlongI : (5000 : Int) < i := by omega
      simp [h1, h5, h6, h7, h8, ew, hb5, hb26]
      refine cg.use ?_
      simp [h1, h5, h6, h7, h8]
      refine cP.use ?_
      simp [h1, h5, h6, h7, h8, epw, hlong, hlongI, hb5, hb26]
      refine cg.use ?_
      simp [h1, h5, h6, h7, h8]
      refine cI.use ?_
      simp [h1, h5, h6, h7, h8]
      refine w_awake.use ?_
      simp
      exact finA_drop rfl
    · have ew : wordErr m.k w = 0 := by unfold wordErr; rw [if_neg hany, if_neg (by omega)]
      have epw : wordsErr m.k [[97], w] = 0 := by simp [wordsErr, e97, ew]
      have cR := w_refAccepts m hmw w (by omega) hbad
      simp only [Dfa.av] at cR
      have hlongI : ¬ (5000 : Int) < i := by omega
      simp [h1, h5, h6, h7, h8, ew, hb5, hb26]
      refine cg.use ?_
      simp [h1, h5, h6, h7, h8]
      refine cP.use ?_
      simp [h1, h5, h6, h7, h8, epw, hlong, hlongI, hb5, hb26]
      refine cR.use ?_
      simp [h1, h5, h6, h7, h8]
      refine w_awake.use ?_
      simp
      exact finA_drop rfl
end Go.Proofs
