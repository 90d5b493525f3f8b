/-
  Walk: what parts two words.
-/
import Derived.Test.YtobhipohnjmnhaaWdPrd
import Derived.Test.YtobhipohnjmnhaaWdAcc2
set_option linter.unusedSimpArgs false
set_option linter.unusedVariables false
set_option linter.unusedSectionVars false
namespace Go.Proofs
open Go Go.AH
set_option maxRecDepth 10000
set_option maxHeartbeats 4000000

theorem w_Part1 (m : Dfa) (hm : m.wf) (H : AHeap) (b3 : Nat) (e3 : ∀ off, cellsAt H b3 off = some (([.int .i64 m.k, nrowsA m.next, boolsA m.good] : List AV).drop off))
    (x : Tw) (hx : x.a < m.next.length ∧ x.b < m.next.length) (i : Nat) (hi : i < m.k) :
    ACallV Try.prog (.fn (.func 81) [] [.ptr b3 0]) [twA x, .int .i64 (i : Int)] H fun r h' => r = twA (prodN m m x i) ∧ h' = H := by
  rw [ACallV_func]
  refine acalls_of Try.func81 rfl Try.call81 (by kernel_rfl) (by show _ ≤ (25 : Nat); simp) ?_
  obtain ⟨hxa, hxb⟩ := hx
  have hk4 := hm.k4
  have r1 : m.next[x.a].length = m.k := hm.rl _ (List.getElem_mem hxa)
  have r2 : m.next[x.b].length = m.k := hm.rl _ (List.getElem_mem hxb)
  have v1 : nx m x.a i = m.next[x.a][i] := by simp [nx, hxa, r1, hi]
  have v2 : nx m x.b i = m.next[x.b][i] := by simp [nx, hxb, r2, hi]
  simp [twA]
  intro b5 hb5
  have n53 := ne_fresh (e3 0) hb5
  simp
  intro b6 hb6
  simp at hb6
  have n63 := ne_fresh (e3 0) hb6.2.2
  have hz : ∀ a b : AV, splice [.int .i64 0, .int .i64 0] 0 [a, b] = [a, b] := fun _ _ => rfl
  simp [hb6]
  refine awp_draw_text (by kernel_rfl) [] [] (by kernel_rfl) (by kernel_rfl) (by simp) ?_
  simp [e3, n53, n63, hb6, nrowsA, natsA, hxa, hxb, r1, r2, hi, hz]
  refine finA_to 2 H (((Drop.refl _).new hb5).new hb6.2.2) ⟨?_, rfl⟩
  simp [twA, prodN, v1, v2]


/-- What parts two states, or nothing. -/
def partF (m : Dfa) (s t : Nat) : Option (List UInt8) := firstF (prodF m m ⟨s, t⟩ (· != ·))
def partA (m : Dfa) (u v : List UInt8) : AV := if wordsErr m.k [u, v] = 0 then (match partF m (goW m 0 (lts u)) (goW m 0 (lts v)) with | some w => .tup [.str w, .bool true, .int .i64 0] | none => .tup [.str [], .bool false, .int .i64 0]) else .tup [.str [], .bool false, .int .i64 (wordsErr m.k [u, v])]
theorem wordsErr_two {k : Nat} {u v : List UInt8} (h : wordsErr k [u, v] = 0) : wordErr k u = 0 ∧ wordErr k v = 0 := by
  simp only [wordsErr] at h
  split at h
  · next q => exact absurd h q
  · next q =>
    split at h
    · next q2 => exact absurd h q2
    · next q2 => simp at q q2; exact ⟨q, q2⟩
theorem wordsErr_cases (k : Nat) (u v : List UInt8) : wordsErr k [u, v] = 0 ∨ wordsErr k [u, v] = 1 ∨ wordsErr k [u, v] = 2 := by
  simp only [wordsErr]
  rcases wordErr_cases k u with e | e | e <;> rcases wordErr_cases k v with e' | e' | e' <;> simp [e, e']

theorem w_Part (m : Dfa) (hm : m.ok) (u v : List UInt8) (hu : u.length ≤ 4611686018427387904) (hv : v.length ≤ 4611686018427387904) : Pure Try.prog 36 [m.av, .str u, .str v] (partA m u v) := by
  refine pure_of (acalls_of Try.func36 rfl Try.call36 (by kernel_rfl) (by show _ ≤ (86 : Nat); simp) ?_)
  have c1 := w_check m hm
  have hwf := hm.wf
  have hn1 := hwf.n1
  have c2 := w_checkWord m.k hm.k4 [u, v] (by simp) (by simp [hu, hv])
  simp only [List.map_cons, List.map_nil, List.length_cons, List.length_nil] at c2
  have hn : m.next.length * m.next.length ≤ 64 * 64 := Nat.mul_le_mul hm.n64 hm.n64
  unfold partA
  simp only [Dfa.av] at c1 ⊢
  simp
  intro b3 hb3
  simp
  refine c1.use ?_
  simp
  intro b29 hb29
  simp at hb29
  simp [hb29]
  refine ACalls.turn 1 (AHeap.empty.upd b3 (.cells [.int .i64 m.k, nrowsA m.next, boolsA m.good])) (SubH.one (cs := [.int .i64 m.k, nrowsA m.next, boolsA m.good]) 1 _ (by simp [hb29]) (by simp [frzF, nrowsA, boolsA])) ?_
  have hargs : ([.int .i64 m.k, .osl b29 0 2 1] : List AV).map (frzF 1 ((AHeap.empty.upd b3 (.cells [.int .i64 m.k, nrowsA m.next, boolsA m.good])).upd b29 (.cells [.str u, .str v])) (AHeap.empty.upd b3 (.cells [.int .i64 m.k, nrowsA m.next, boolsA m.good]))) = [.int .i64 m.k, .sl 2 [.str u, .str v]] := by simp [frzF, hb29]
  rw [hargs]
  refine c2.use ?_
  rcases wordsErr_cases m.k u v with e | e | e
  · obtain ⟨eu, ev⟩ := wordsErr_two e
    obtain ⟨gu, lu⟩ := not_bad eu
    obtain ⟨gv, lv⟩ := not_bad ev
    have c3 := w_from m hwf 0 (by omega) u hu gu
    have c4 := w_from m hwf 0 (by omega) v hv gv
    have su := goW_lt hwf (lts (u.take u.length)) 0 (by omega) (lts_take_ok gu _)
    have sv := goW_lt hwf (lts (v.take v.length)) 0 (by omega) (lts_take_ok gv _)
    rw [List.take_length] at su sv
    simp only [Dfa.av] at c3 c4
    simp [e]
    by_cases huv : u = v
    · subst huv
      obtain ⟨s, hs⟩ : ∃ s, s = goW m 0 (lts u) := ⟨_, rfl⟩
      rw [← hs] at c3 su ⊢
      refine awp_draw_text (by kernel_rfl) [36, 39] [(.fn (.func 76) [] [], [.agg [.int .i64 m.k, nrowsA m.next, boolsA m.good], .int .i64 0, .str u], .int .i64 s)] (by kernel_rfl) (by kernel_rfl) (by simp; exact PureV.of c3) ?_
      simp
      intro b11 hb11
      simp at hb11
      have hz : ∀ a b : AV, splice [.int .i64 0, .int .i64 0] 0 [a, b] = [a, b] := fun _ _ => rfl
      simp [hb11, hz]
      have hs0 : (Tw.mk s s).a < m.next.length ∧ (Tw.mk s s).b < m.next.length := ⟨su, su⟩
      obtain ⟨keys, rows, ex, F, hF, F1, F2, F3, F4⟩ := prod_ok hwf hwf rfl ⟨s, s⟩ hs0
      have hkeys := (prod_bd hwf hwf rfl ⟨s, s⟩ hs0 F _ F4).2
      have hwp := prod_wf hwf hwf rfl ⟨s, s⟩ hs0 (by omega) (· != ·)
      obtain ⟨gd, hgd⟩ : ∃ gd : Tw → Bool, gd = fun x => (m.good.getD x.a false != m.good.getD x.b false) := ⟨_, rfl⟩
      have hres : prodF m m ⟨s, s⟩ (· != ·) = ⟨m.k, rows, keys.map gd⟩ := by rw [hgd]; exact ex.eq _
      have c5 := w_first _ hwp
      unfold partF
      rw [hres] at c5 ⊢
      have hrn := ex.rn; have hkn := ex.nN
      obtain ⟨HB, hHB⟩ : ∃ HB, HB = (AHeap.empty.upd b3 (.cells [.int .i64 m.k, nrowsA m.next, boolsA m.good])).upd b11 (.cells [.int .i64 s, .int .i64 s]) := ⟨_, rfl⟩
      have hB3 : ∀ off, cellsAt HB b3 off = some (([.int .i64 (m.k : Int), nrowsA m.next, boolsA m.good] : List AV).drop off) := by intro off; rw [hHB]; simp [hb11]
      rw [← hHB]
      have c6 := w_reachedT ⟨s, s⟩ m.k hwf.k4 hwf.k1 (-1) (.fn (.func 81) [] [.ptr b3 0]) (prodN m m) (fun x => x.a < m.next.length ∧ x.b < m.next.length) hs0 (fun x i hx hi => ⟨nx_lt hwf hx.1 hi, nx_lt hwf hx.2 hi⟩) HB
        (fun x i hx hi => w_Part1 m hwf HB b3 hB3 x hx i hi) F (by omega) F1 F2 F3
      rw [F4] at c6
      simp only [twA] at c6
      refine c6.use ?_
      simp [rchA, twosA, hB3]
      intro b15 hb15
      have n3 := ne_fresh (hB3 0) hb15
      simp [hB3, n3]
      have hBd : Drop HB AHeap.empty := by
        rw [hHB]
        exact (((Drop.refl _).new hb3).new (by simp))
      clear hHB
      refine awp_loop_g (γ := Nat × Option Nat) (fun q t h => (q.1 ≤ F) ∧ ((q.2 = none → q.1 = 0) ∧ ∀ b, q.2 = some b → Fresh HB b ∧ ¬ b = b15 ∧ ¬ b15 = b) ∧ t 3 = .ptr b3 0 ∧ t 15 = .ptr b15 0 ∧ t 54 = .sl F (fl keys) ∧ t 55 = .int .i64 F ∧ t 56 = .int .i64 q.1 ∧ h = (HB.upd b15 (.cells [.int .i64 m.k, nrowsA rows, ownV q.2 q.1 1])).updO q.2 (((keys.take q.1).map gd).map .bool)) (fun q => F - q.1) ((0, none)) (turnA_self (by simp [hF])) ?_
      rintro q t h ⟨hi, ho, h3, h15, h54, h55, h56, rfl⟩
      obtain ⟨i, o⟩ := q
      simp only at h3 h15 h54 h55 h56 hi ho
      by_cases hlt : i < F
      · have hik : i < keys.length := by omega
        obtain ⟨x, hxe⟩ : ∃ x, keys[i]? = some x := ⟨keys[i], by simp [hik]⟩
        have hxk : keys[i] = x := by rw [List.getElem?_eq_getElem hik] at hxe; exact Option.some.inj hxe
        obtain ⟨hxa, hxb⟩ := hkeys x (List.mem_of_getElem? hxe)
        have ga : x.a < m.good.length := by rw [hwf.gl]; exact hxa
        have gb : x.b < m.good.length := by rw [hwf.gl]; exact hxb
        have hval : gd x = (m.good[x.a] != m.good[x.b]) := by rw [hgd]; simp [ga, gb]
        obtain ⟨rr, hdr⟩ := fl_drop keys i x hxe
        have htake : keys.take (i + 1) = keys.take i ++ [x] := by rw [← hxk, List.take_append_getElem]
        have hw : IntKind.i64.wrap ((i : Int) + 1) = (i : Int) + 1 := wrap_i64 (by omega) (by omega)
        simp [h3, h15, h54, h55, h56, hlt, hik, hdr]
        rcases o with _ | b
        · obtain rfl : i = 0 := ho.1 rfl
          simp
          intro b12 hb12
          simp at hb12
          have n12 := ne_fresh (hB3 0) hb12.2.2
          simp [h3, h15, h54, h55, h56, hz, hb12]
          refine awp_draw_text (by kernel_rfl) [] [] (by kernel_rfl) (by kernel_rfl) (by simp) ?_
          simp [h3, h15, h54, h55, h56, hB3, n3, n12, hb12, boolsA, ga, gb, hz]
          intro b16 hb16
          simp at hb16
          simp [h3, h15, h54, h55, h56, hb12, hb16]
          intro b17 hb17
          simp at hb17
          simp [h3, h15, h54, h55, h56, hb12, hb16, hb17, hw]
          refine turnA_to ((HB.upd b15 (.cells [.int .i64 m.k, nrowsA rows, .osl b17 0 1 1])).upd b17 (.cells (((keys.take 1).map gd).map .bool))) ?_ ⟨1, by omega, by omega, some b17, by simp [h3, h15, h54, h55, h56, hb17]⟩
          simp only [Nat.zero_add] at htake
          rw [htake]
          simp [hval]
          refine Drop.both (Drop.new (Drop.new (Drop.refl _) ?_) ?_) <;> simp [hb12, hb16]
        · have ho1 := ho.2 b rfl
          have n1 := ne_fresh (hB3 0) ho1.1
          simp [ho1]
          intro b12 hb12
          simp at hb12
          have hlen : min i keys.length = i := by omega
          have n12 := ne_fresh (hB3 0) hb12.2.2.2.2
          simp [h3, h15, h54, h55, h56, hz, hb12, ho1]
          refine awp_draw_text (by kernel_rfl) [] [] (by kernel_rfl) (by kernel_rfl) (by simp) ?_
          simp [h3, h15, h54, h55, h56, hB3, n1, n3, n12, hb12, boolsA, ga, gb, hz, ho1]
          intro b16 hb16
          simp at hb16
          simp [h3, h15, h54, h55, h56, hb12, hb16, ho1, hlen]
          refine ⟨by omega, ?_⟩
          intro b17 hb17
          simp at hb17
          simp [h3, h15, h54, h55, h56, hb12, hb16, hb17, hw, ho1]
          refine turnA_to ((HB.upd b15 (.cells [.int .i64 m.k, nrowsA rows, .osl b17 0 (i + 1) 1])).upd b17 (.cells (((keys.take (i + 1)).map gd).map .bool))) ?_ ⟨i + 1, by omega, by omega, some b17, by simp [h3, h15, h54, h55, h56, hb17]⟩
          rw [htake]
          simp [hval]
          refine Drop.both (Drop.new (Drop.new (Drop.refl _) ?_) ?_) <;> simp [hb12, hb16]
      · obtain rfl : i = F := by omega
        rcases o with _ | b
        · have := ho.1 rfl; omega
        have ho1 := ho.2 b rfl
        have n1 := ne_fresh (hB3 0) ho1.1
        simp [h3, h15, h54, h55, h56, n3, ho1, n1]
        refine ACalls.turn 2 AHeap.empty (SubH.empty _ _) ?_
        have hf0 : ∀ h h' a, frzF 0 h h' a = a := fun _ _ _ => rfl
        simp only [Dfa.av, boolsA] at c5
        simp [ho1, hF, hrn, List.take_of_length_le, hf0, Function.comp_def]
        simp [Function.comp_def] at c5
        refine c5.use ?_
        cases firstF ⟨m.k, rows, keys.map gd⟩ with
        | none =>
          simp
          exact finA_drop rfl
        | some w =>
          simp
          exact finA_drop rfl
    · have huv' : ¬ v = u := fun e => huv e.symm
      obtain ⟨s, hs⟩ : ∃ s, s = goW m 0 (lts u) := ⟨_, rfl⟩
      obtain ⟨r, hr⟩ : ∃ r, r = goW m 0 (lts v) := ⟨_, rfl⟩
      rw [← hs] at c3 su ⊢
      rw [← hr] at c4 sv ⊢
      refine awp_draw_text (by kernel_rfl) [36, 39] [(.fn (.func 76) [] [], [.agg [.int .i64 m.k, nrowsA m.next, boolsA m.good], .int .i64 0, .str u], .int .i64 s), (.fn (.func 76) [] [], [.agg [.int .i64 m.k, nrowsA m.next, boolsA m.good], .int .i64 0, .str v], .int .i64 r)] (by kernel_rfl) (by kernel_rfl) (by simp; exact ⟨PureV.of c3, PureV.of c4⟩) ?_
      simp [huv, huv']
      intro b11 hb11
      simp at hb11
      have hz : ∀ a b : AV, splice [.int .i64 0, .int .i64 0] 0 [a, b] = [a, b] := fun _ _ => rfl
      simp [hb11, hz]
      have hs0 : (Tw.mk s r).a < m.next.length ∧ (Tw.mk s r).b < m.next.length := ⟨su, sv⟩
      obtain ⟨keys, rows, ex, F, hF, F1, F2, F3, F4⟩ := prod_ok hwf hwf rfl ⟨s, r⟩ hs0
      have hkeys := (prod_bd hwf hwf rfl ⟨s, r⟩ hs0 F _ F4).2
      have hwp := prod_wf hwf hwf rfl ⟨s, r⟩ hs0 (by omega) (· != ·)
      obtain ⟨gd, hgd⟩ : ∃ gd : Tw → Bool, gd = fun x => (m.good.getD x.a false != m.good.getD x.b false) := ⟨_, rfl⟩
      have hres : prodF m m ⟨s, r⟩ (· != ·) = ⟨m.k, rows, keys.map gd⟩ := by rw [hgd]; exact ex.eq _
      have c5 := w_first _ hwp
      unfold partF
      rw [hres] at c5 ⊢
      have hrn := ex.rn; have hkn := ex.nN
      obtain ⟨HB, hHB⟩ : ∃ HB, HB = (AHeap.empty.upd b3 (.cells [.int .i64 m.k, nrowsA m.next, boolsA m.good])).upd b11 (.cells [.int .i64 s, .int .i64 r]) := ⟨_, rfl⟩
      have hB3 : ∀ off, cellsAt HB b3 off = some (([.int .i64 (m.k : Int), nrowsA m.next, boolsA m.good] : List AV).drop off) := by intro off; rw [hHB]; simp [hb11]
      rw [← hHB]
      have c6 := w_reachedT ⟨s, r⟩ m.k hwf.k4 hwf.k1 (-1) (.fn (.func 81) [] [.ptr b3 0]) (prodN m m) (fun x => x.a < m.next.length ∧ x.b < m.next.length) hs0 (fun x i hx hi => ⟨nx_lt hwf hx.1 hi, nx_lt hwf hx.2 hi⟩) HB
        (fun x i hx hi => w_Part1 m hwf HB b3 hB3 x hx i hi) F (by omega) F1 F2 F3
      rw [F4] at c6
      simp only [twA] at c6
      refine c6.use ?_
      simp [rchA, twosA, hB3]
      intro b15 hb15
      have n3 := ne_fresh (hB3 0) hb15
      simp [hB3, n3]
      have hBd : Drop HB AHeap.empty := by
        rw [hHB]
        exact (((Drop.refl _).new hb3).new (by simp))
      clear hHB
      refine awp_loop_g (γ := Nat × Option Nat) (fun q t h => (q.1 ≤ F) ∧ ((q.2 = none → q.1 = 0) ∧ ∀ b, q.2 = some b → Fresh HB b ∧ ¬ b = b15 ∧ ¬ b15 = b) ∧ t 3 = .ptr b3 0 ∧ t 15 = .ptr b15 0 ∧ t 54 = .sl F (fl keys) ∧ t 55 = .int .i64 F ∧ t 56 = .int .i64 q.1 ∧ h = (HB.upd b15 (.cells [.int .i64 m.k, nrowsA rows, ownV q.2 q.1 1])).updO q.2 (((keys.take q.1).map gd).map .bool)) (fun q => F - q.1) ((0, none)) (turnA_self (by simp [hF])) ?_
      rintro q t h ⟨hi, ho, h3, h15, h54, h55, h56, rfl⟩
      obtain ⟨i, o⟩ := q
      simp only at h3 h15 h54 h55 h56 hi ho
      by_cases hlt : i < F
      · have hik : i < keys.length := by omega
        obtain ⟨x, hxe⟩ : ∃ x, keys[i]? = some x := ⟨keys[i], by simp [hik]⟩
        have hxk : keys[i] = x := by rw [List.getElem?_eq_getElem hik] at hxe; exact Option.some.inj hxe
        obtain ⟨hxa, hxb⟩ := hkeys x (List.mem_of_getElem? hxe)
        have ga : x.a < m.good.length := by rw [hwf.gl]; exact hxa
        have gb : x.b < m.good.length := by rw [hwf.gl]; exact hxb
        have hval : gd x = (m.good[x.a] != m.good[x.b]) := by rw [hgd]; simp [ga, gb]
        obtain ⟨rr, hdr⟩ := fl_drop keys i x hxe
        have htake : keys.take (i + 1) = keys.take i ++ [x] := by rw [← hxk, List.take_append_getElem]
        have hw : IntKind.i64.wrap ((i : Int) + 1) = (i : Int) + 1 := wrap_i64 (by omega) (by omega)
        simp [h3, h15, h54, h55, h56, hlt, hik, hdr]
        rcases o with _ | b
        · obtain rfl : i = 0 := ho.1 rfl
          simp
          intro b12 hb12
          simp at hb12
          have n12 := ne_fresh (hB3 0) hb12.2.2
          simp [h3, h15, h54, h55, h56, hz, hb12]
          refine awp_draw_text (by kernel_rfl) [] [] (by kernel_rfl) (by kernel_rfl) (by simp) ?_
          simp [h3, h15, h54, h55, h56, hB3, n3, n12, hb12, boolsA, ga, gb, hz]
          intro b16 hb16
          simp at hb16
          simp [h3, h15, h54, h55, h56, hb12, hb16]
          intro b17 hb17
          simp at hb17
          simp [h3, h15, h54, h55, h56, hb12, hb16, hb17, hw]
          refine turnA_to ((HB.upd b15 (.cells [.int .i64 m.k, nrowsA rows, .osl b17 0 1 1])).upd b17 (.cells (((keys.take 1).map gd).map .bool))) ?_ ⟨1, by omega, by omega, some b17, by simp [h3, h15, h54, h55, h56, hb17]⟩
          simp only [Nat.zero_add] at htake
          rw [htake]
          simp [hval]
          refine Drop.both (Drop.new (Drop.new (Drop.refl _) ?_) ?_) <;> simp [hb12, hb16]
        · have ho1 := ho.2 b rfl
          have n1 := ne_fresh (hB3 0) ho1.1
          simp [ho1]
          intro b12 hb12
          simp at hb12
          have hlen : min i keys.length = i := by omega
          have n12 := ne_fresh (hB3 0) hb12.2.2.2.2
          simp [h3, h15, h54, h55, h56, hz, hb12, ho1]
          refine awp_draw_text (by kernel_rfl) [] [] (by kernel_rfl) (by kernel_rfl) (by simp) ?_
          simp [h3, h15, h54, h55, h56, hB3, n1, n3, n12, hb12, boolsA, ga, gb, hz, ho1]
          intro b16 hb16
          simp at hb16
          simp [h3, h15, h54, h55, h56, hb12, hb16, ho1, hlen]
          refine ⟨by omega, ?_⟩
          intro b17 hb17
          simp at hb17
          simp [h3, h15, h54, h55, h56, hb12, hb16, hb17, hw, ho1]
          refine turnA_to ((HB.upd b15 (.cells [.int .i64 m.k, nrowsA rows, .osl b17 0 (i + 1) 1])).upd b17 (.cells (((keys.take (i + 1)).map gd).map .bool))) ?_ ⟨i + 1, by omega, by omega, some b17, by simp [h3, h15, h54, h55, h56, hb17]⟩
          rw [htake]
          simp [hval]
          refine Drop.both (Drop.new (Drop.new (Drop.refl _) ?_) ?_) <;> simp [hb12, hb16]
      · obtain rfl : i = F := by omega
        rcases o with _ | b
        · have := ho.1 rfl; omega
        have ho1 := ho.2 b rfl
        have n1 := ne_fresh (hB3 0) ho1.1
        simp [h3, h15, h54, h55, h56, n3, ho1, n1]
        refine ACalls.turn 2 AHeap.empty (SubH.empty _ _) ?_
        have hf0 : ∀ h h' a, frzF 0 h h' a = a := fun _ _ _ => rfl
        simp only [Dfa.av, boolsA] at c5
        simp [ho1, hF, hrn, List.take_of_length_le, hf0, Function.comp_def]
        simp [Function.comp_def] at c5
        refine c5.use ?_
        cases firstF ⟨m.k, rows, keys.map gd⟩ with
        | none =>
          simp
          exact finA_drop rfl
        | some w =>
          simp
          exact finA_drop rfl
  · simp [e]
    exact finA_drop rfl
  · simp [e]
    exact finA_drop rfl
end Go.Proofs
