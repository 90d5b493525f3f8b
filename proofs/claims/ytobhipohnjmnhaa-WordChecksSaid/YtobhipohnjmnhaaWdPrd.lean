/-
  Walks: two machines side by side.
-/
import Derived.Test.YtobhipohnjmnhaaWdExp
set_option linter.unusedSimpArgs false
set_option linter.unusedVariables false
set_option linter.unusedSectionVars false
namespace Go.Proofs
open Go Go.AH
set_option maxRecDepth 10000
set_option maxHeartbeats 4000000

theorem w_product1 (m m' : Dfa) (hm : m.wf) (hm' : m'.wf) (hk : m.k = m'.k) (H : AHeap) (b3 b4 : Nat) (e3 : ∀ off, cellsAt H b3 off = some (([.int .i64 m.k, nrowsA m.next, boolsA m.good] : List AV).drop off)) (e4 : ∀ off, cellsAt H b4 off = some (([.int .i64 m'.k, nrowsA m'.next, boolsA m'.good] : List AV).drop off))
    (x : Tw) (hx : x.a < m.next.length ∧ x.b < m'.next.length) (i : Nat) (hi : i < m.k) :
    ACallV Try.prog (.fn (.func 125) [] [.ptr b3 0, .ptr b4 0]) [twA x, .int .i64 (i : Int)] H fun r h' => r = twA (prodN m m' x i) ∧ h' = H := by
  rw [ACallV_func]
  refine acalls_of Try.func125 rfl Try.call125 (by kernel_rfl) (by show _ ≤ (26 : Nat); simp) ?_
  obtain ⟨hxa, hxb⟩ := hx
  have hk4 := hm.k4
  have r1 : m.next[x.a].length = m.k := hm.rl _ (List.getElem_mem hxa)
  have r2 : m'.next[x.b].length = m'.k := hm'.rl _ (List.getElem_mem hxb)
  have v1 : nx m x.a i = m.next[x.a][i] := by simp [nx, hxa, r1, hi]
  have v2 : nx m' x.b i = m'.next[x.b][i]'(by omega) := by simp [nx, hxb, r2, ← hk, hi]
  have hi2 : i < m'.k := by omega
  simp [twA]
  intro b5 hb5
  have n53 := ne_fresh (e3 0) hb5; have n54 := ne_fresh (e4 0) hb5
  simp
  intro b6 hb6
  simp at hb6
  have n63 := ne_fresh (e3 0) hb6.2.2; have n64 := ne_fresh (e4 0) hb6.2.2
  have hz : ∀ a b : AV, splice [.int .i64 0, .int .i64 0] 0 [a, b] = [a, b] := fun _ _ => rfl
  simp [hb6]
  refine awp_draw_text (by kernel_rfl) [] [] (by kernel_rfl) (by kernel_rfl) (by simp) ?_
  simp [e3, e4, n53, n54, n63, n64, hb6, nrowsA, natsA, hxa, hxb, r1, r2, hi, hi2, hz]
  refine finA_to 2 H (((Drop.refl _).new hb5).new hb6.2.2) ⟨?_, rfl⟩
  simp [twA, prodN, v1, v2]

theorem w_product (m m' : Dfa) (hm : m.wf) (hm' : m'.wf) (hk : m.k = m'.k) (hn : m.next.length * m'.next.length ≤ 1000000) (gf : AV) (hgf1 : gf.frozen = true) (hgf2 : gf.fit = true) (g : Bool → Bool → Bool) (hg : ∀ x y, PureV Try.prog gf [.bool x, .bool y] (.bool (g x y))) :
    Pure Try.prog 78 [m.av, m'.av, gf] (prodF m m' ⟨0, 0⟩ g).av := by
  refine pure_of (acalls_of Try.func78 rfl Try.call78 (by kernel_rfl) (by show _ ≤ (53 : Nat); simp) ?_)
  have hn1 := hm.n1; have hn1' := hm'.n1
  have hs0 : (Tw.mk 0 0).a < m.next.length ∧ (Tw.mk 0 0).b < m'.next.length := ⟨by simp only; omega, by simp only; omega⟩
  obtain ⟨keys, rows, ex, F, hF, F1, F2, F3, F4⟩ := prod_ok hm hm' hk ⟨0, 0⟩ hs0
  have hkeys := (prod_bd hm hm' hk ⟨0, 0⟩ hs0 F _ F4).2
  obtain ⟨gd, hgd⟩ : ∃ gd : Tw → Bool, gd = fun x => g (m.good.getD x.a false) (m'.good.getD x.b false) := ⟨_, rfl⟩
  have hres : prodF m m' ⟨0, 0⟩ g = ⟨m.k, rows, keys.map gd⟩ := by rw [hgd]; exact ex.eq _
  rw [hres]
  have hrn := ex.rn; have hkn := ex.nN
  simp [Dfa.av]
  intro b3 hb3
  simp
  intro b4 hb4
  simp at hb4
  simp [hb4]
  intro b6 hb6
  simp at hb6
  simp [hb4, hb6]
  obtain ⟨HB, hHB⟩ : ∃ HB, HB = ((AHeap.empty.upd b3 (.cells [.int .i64 m.k, nrowsA m.next, boolsA m.good])).upd b4 (.cells [.int .i64 m'.k, nrowsA m'.next, boolsA m'.good])).upd b6 (.cells [.int .i64 0, .nilsl, .nilsl]) := ⟨_, rfl⟩
  have hB3 : ∀ off, cellsAt HB b3 off = some (([.int .i64 (m.k : Int), nrowsA m.next, boolsA m.good] : List AV).drop off) := by intro off; rw [hHB]; simp [hb4, hb6]
  have hB4 : ∀ off, cellsAt HB b4 off = some (([.int .i64 (m'.k : Int), nrowsA m'.next, boolsA m'.good] : List AV).drop off) := by intro off; rw [hHB]; simp [hb4, hb6]
  have hB6 : cellsAt HB b6 0 = some [.int .i64 0, .nilsl, .nilsl] := by rw [hHB]; simp [hb4, hb6]
  rw [← hHB]
  have c1 := w_reachedT ⟨0, 0⟩ m.k hm.k4 hm.k1 (-1) (.fn (.func 125) [] [.ptr b3 0, .ptr b4 0]) (prodN m m') (fun x => x.a < m.next.length ∧ x.b < m'.next.length) hs0 (fun x i hx hi => ⟨nx_lt hm hx.1 hi, nx_lt hm' hx.2 (by omega)⟩) HB
    (fun x i hx hi => w_product1 m m' hm hm' hk HB b3 b4 hB3 hB4 x hx i hi) F (by omega) F1 F2 F3
  rw [F4] at c1
  simp only [twA] at c1
  refine c1.use ?_
  simp [rchA, twosA, hB3]
  intro b10 hb10
  have n3 := ne_fresh (hB3 0) hb10; have n4 := ne_fresh (hB4 0) hb10; have n6 := ne_fresh hB6 hb10
  simp [hB3, n3, n4, n6]
  have hz : ∀ a b : AV, splice [.int .i64 0, .int .i64 0] 0 [a, b] = [a, b] := fun _ _ => rfl
  have hBd : Drop HB AHeap.empty := by
    rw [hHB]
    exact ((((Drop.refl _).new hb3).new (by simp)).new (by simp))
  clear hHB
  refine awp_loop_g (γ := Nat × Option Nat) (fun q t h => (q.1 ≤ F) ∧ ((q.2 = none → q.1 = 0) ∧ ∀ b, q.2 = some b → Fresh HB b ∧ ¬ b = b10 ∧ ¬ b10 = b) ∧ t 2 = gf ∧ t 3 = .ptr b3 0 ∧ t 4 = .ptr b4 0 ∧ t 6 = .ptr b6 0 ∧ t 10 = .ptr b10 0 ∧ t 26 = .sl F (fl keys) ∧ t 27 = .int .i64 F ∧ t 28 = .int .i64 q.1 ∧ h = (HB.upd b10 (.cells [.int .i64 m.k, nrowsA rows, ownV q.2 q.1 1])).updO q.2 (((keys.take q.1).map gd).map .bool)) (fun q => F - q.1) ((0, none)) (turnA_self (by simp [hF])) ?_
  rintro q t h ⟨hi, ho, h2, h3, h4, h6, h10, h26, h27, h28, rfl⟩
  obtain ⟨i, o⟩ := q
  simp only at h2 h3 h4 h6 h10 h26 h27 h28 hi ho
  by_cases hlt : i < F
  · have hik : i < keys.length := by omega
    obtain ⟨x, hxe⟩ : ∃ x, keys[i]? = some x := ⟨keys[i], by simp [hik]⟩
    have hxk : keys[i] = x := by rw [List.getElem?_eq_getElem hik] at hxe; exact Option.some.inj hxe
    obtain ⟨hxa, hxb⟩ := hkeys x (List.mem_of_getElem? hxe)
    have ga : x.a < m.good.length := by rw [hm.gl]; exact hxa
    have gb : x.b < m'.good.length := by rw [hm'.gl]; exact hxb
    have hval : gd x = g m.good[x.a] m'.good[x.b] := by rw [hgd]; simp [ga, gb]
    obtain ⟨rr, hdr⟩ := fl_drop keys i x hxe
    have htake : keys.take (i + 1) = keys.take i ++ [x] := by rw [← hxk, List.take_append_getElem]
    have hw : IntKind.i64.wrap ((i : Int) + 1) = (i : Int) + 1 := wrap_i64 (by omega) (by omega)
    simp [h2, h3, h4, h6, h10, h26, h27, h28, hlt, hik, hdr]
    rcases o with _ | b
    · obtain rfl : i = 0 := ho.1 rfl
      simp
      intro b12 hb12
      simp at hb12
      have n12 := ne_fresh (hB3 0) hb12.2.2
      have n14 := ne_fresh (hB4 0) hb12.2.2
      simp [h2, h3, h4, h6, h10, h26, h27, h28, hz, hb12]
      refine awp_draw_text (by kernel_rfl) [47] [(gf, [.bool m.good[x.a], .bool m'.good[x.b]], .bool (g m.good[x.a] m'.good[x.b]))] (by kernel_rfl) (by kernel_rfl) (by simp; exact hg _ _) ?_
      simp [h2, h3, h4, h6, h10, h26, h27, h28, hB3, hB4, n3, n4, n6, n12, n14, hb12, boolsA, ga, gb, hz]
      intro b16 hb16
      simp at hb16
      simp [h2, h3, h4, h6, h10, h26, h27, h28, hb12, hb16]
      intro b17 hb17
      simp at hb17
      simp [h2, h3, h4, h6, h10, h26, h27, h28, hb12, hb16, hb17, hw]
      refine turnA_to ((HB.upd b10 (.cells [.int .i64 m.k, nrowsA rows, .osl b17 0 1 1])).upd b17 (.cells (((keys.take 1).map gd).map .bool))) ?_ ⟨1, by omega, by omega, some b17, by simp [h2, h3, h4, h6, h10, h26, h27, h28, hb17]⟩
      simp only [Nat.zero_add] at htake
      rw [htake]
      simp [hval]
      refine Drop.both (Drop.new (Drop.new (Drop.refl _) ?_) ?_) <;> simp [hb12, hb16]
    · have ho1 := ho.2 b rfl
      have n1 := ne_fresh (hB3 0) ho1.1; have n2 := ne_fresh (hB4 0) ho1.1; have n7 := ne_fresh hB6 ho1.1
      simp [ho1]
      intro b12 hb12
      simp at hb12
      have hlen : min i keys.length = i := by omega
      have n12 := ne_fresh (hB3 0) hb12.2.2.2.2
      have n14 := ne_fresh (hB4 0) hb12.2.2.2.2
      simp [h2, h3, h4, h6, h10, h26, h27, h28, hz, hb12, ho1]
      refine awp_draw_text (by kernel_rfl) [47] [(gf, [.bool m.good[x.a], .bool m'.good[x.b]], .bool (g m.good[x.a] m'.good[x.b]))] (by kernel_rfl) (by kernel_rfl) (by simp; exact hg _ _) ?_
      simp [h2, h3, h4, h6, h10, h26, h27, h28, hB3, hB4, n1, n2, n3, n4, n6, n12, n14, hb12, boolsA, ga, gb, hz, ho1]
      intro b16 hb16
      simp at hb16
      simp [h2, h3, h4, h6, h10, h26, h27, h28, hb12, hb16, ho1, hlen]
      refine ⟨by omega, ?_⟩
      intro b17 hb17
      simp at hb17
      simp [h2, h3, h4, h6, h10, h26, h27, h28, hb12, hb16, hb17, hw, ho1]
      refine turnA_to ((HB.upd b10 (.cells [.int .i64 m.k, nrowsA rows, .osl b17 0 (i + 1) 1])).upd b17 (.cells (((keys.take (i + 1)).map gd).map .bool))) ?_ ⟨i + 1, by omega, by omega, some b17, by simp [h2, h3, h4, h6, h10, h26, h27, h28, hb17]⟩
      rw [htake]
      simp [hval]
      refine Drop.both (Drop.new (Drop.new (Drop.refl _) ?_) ?_) <;> simp [hb12, hb16]
  · obtain rfl : i = F := by omega
    rcases o with _ | b
    · have := ho.1 rfl; omega
    have ho1 := ho.2 b rfl
    have n1 := ne_fresh (hB3 0) ho1.1; have n2 := ne_fresh (hB4 0) ho1.1; have n7 := ne_fresh hB6 ho1.1
    simp [h2, h3, h4, h6, h10, h26, h27, h28, hB6, n3, n4, n6, ho1, n7]
    refine finA_all 2 ?_
    have hf0 : ∀ h h' a, frzF 0 h h' a = a := fun _ _ _ => rfl
    simp [n7, ho1, hF, hrn, List.take_of_length_le, Dfa.av, boolsA, hf0, Function.comp_def]

theorem neq_pure (x y : Bool) : PureV Try.prog (.fn (.func 79) [] []) [.bool x, .bool y] (.bool (x != y)) := by
  refine PureV.of (pure_of (acalls_of Try.func79 rfl Try.call79 (by kernel_rfl) (by show _ ≤ (8 : Nat); simp) ?_))
  simp
  refine finA_self ?_
  cases x <;> cases y <;> rfl

theorem w_checkTwo (m m' : Dfa) (hm : m.ok) (hm' : m'.ok) : Pure Try.prog 77 [m.av, m'.av] (.int .i64 (if m.k = m'.k then 0 else 1)) := by
  refine pure_of (acalls_of Try.func77 rfl Try.call77 (by kernel_rfl) (by show _ ≤ (27 : Nat); simp) ?_)
  have c1 := w_check m hm
  have c2 := w_check m' hm'
  simp only [Dfa.av] at c1 c2 ⊢
  simp
  intro b1 hb1
  simp
  intro b2 hb2
  simp at hb2
  simp [hb2]
  have hz : zcells [.int .i64 0, .nilsl, .nilsl] 2 = [.int .i64 0, .nilsl, .nilsl, .int .i64 0, .nilsl, .nilsl] := rfl
  have hs1 : ∀ a b c d e f g h i : AV, splice [a, b, c, d, e, f] 0 [g, h, i] = [g, h, i, d, e, f] := fun _ _ _ _ _ _ _ _ _ => rfl
  have hs2 : ∀ a b c d e f g h i : AV, splice [a, b, c, d, e, f] 3 [g, h, i] = [a, b, c, g, h, i] := fun _ _ _ _ _ _ _ _ _ => rfl
  have hs3 : ∀ a b c g h i : AV, splice [a, b, c] 0 [g, h, i] = [g, h, i] := fun _ _ _ _ _ _ => rfl
  simp [hz, hs1, hs2]
  intro b10 hb10
  simp at hb10
  simp [hb2, hb10]
  refine awp_loop_g (γ := Nat) (fun i t h => (i ≤ 2) ∧ t 2 = .ptr b1 0 ∧ t 3 = .ptr b2 0 ∧ t 10 = .osl b10 0 2 3 ∧ t 11 = .int .i64 2 ∧ t 12 = .int .i64 i ∧ h = ((AHeap.empty.upd b1 (.cells [.int .i64 m.k, nrowsA m.next, boolsA m.good])).upd b2 (.cells [.int .i64 m'.k, nrowsA m'.next, boolsA m'.good])).upd b10 (.cells [.int .i64 m.k, nrowsA m.next, boolsA m.good, .int .i64 m'.k, nrowsA m'.next, boolsA m'.good])) (fun i => 2 - i) (0) (turnA_self (by simp)) ?_
  rintro i t h ⟨hi, h2, h3, h10, h11, h12, rfl⟩
  have hcs : i = 0 ∨ i = 1 ∨ i = 2 := by omega
  rcases hcs with rfl | rfl | rfl
  · simp [h2, h3, h10, h11, h12]
    intro b6 hb6
    simp at hb6
    simp [h2, h3, h10, h11, h12, hs3]
    refine c1.use ?_
    simp [h2, h3, h10, h11, h12]
    exact turnA_drop b6 ⟨1, by omega, by omega, by simp [h2, h3, h10, h11, h12, hb6, IntKind.wrap, IntKind.bits, IntKind.signed]⟩
  · simp [h2, h3, h10, h11, h12]
    intro b6 hb6
    simp at hb6
    simp [h2, h3, h10, h11, h12, hs3]
    refine c2.use ?_
    simp [h2, h3, h10, h11, h12]
    exact turnA_drop b6 ⟨2, by omega, by omega, by simp [h2, h3, h10, h11, h12, hb6, IntKind.wrap, IntKind.bits, IntKind.signed]⟩
  · by_cases he : m.k = m'.k
    · simp [h2, h3, h10, h11, h12, hb2, hb10, he]
      exact finA_drop rfl
    · have he' : ¬ (m.k : Int) = m'.k := fun e => he (Int.ofNat.inj e)
      simp [h2, h3, h10, h11, h12, hb2, hb10, he, he']
      exact finA_drop rfl

theorem w_Differ (m m' : Dfa) (hm : m.ok) (hm' : m'.ok) (hk : m.k = m'.k) : Pure Try.prog 34 [m.av, m'.av] (match firstF (prodF m m' ⟨0, 0⟩ (· != ·)) with | some w => .tup [.str w, .bool true, .int .i64 0] | none => .tup [.str [], .bool false, .int .i64 0]) := by
  refine pure_of (acalls_of Try.func34 rfl Try.call34 (by kernel_rfl) (by show _ ≤ (23 : Nat); simp) ?_)
  have hn : m.next.length * m'.next.length ≤ 64 * 64 := Nat.mul_le_mul hm.n64 hm'.n64
  have h1 := hm.n1; have h2 := hm'.n1
  have c1 := w_checkTwo m m' hm hm'
  rw [if_pos hk] at c1
  have c2 := w_product m m' hm.wf hm'.wf hk (by omega) (.fn (.func 79) [] []) rfl rfl (· != ·) neq_pure
  have hw := prod_wf hm.wf hm'.wf hk ⟨0, 0⟩ ⟨by simp only; omega, by simp only; omega⟩ (by omega) (· != ·)
  have c3 := w_first (prodF m m' ⟨0, 0⟩ (· != ·)) hw
  simp only [Dfa.av] at c1 c2 c3 ⊢
  simp
  intro b1 hb1
  simp
  intro b2 hb2
  simp at hb2
  simp [hb2]
  refine c1.use ?_
  simp [hb2]
  refine c2.use ?_
  simp
  refine c3.use ?_
  cases firstF (prodF m m' ⟨0, 0⟩ (· != ·)) with
  | none =>
    simp
    exact finA_drop rfl
  | some w =>
    simp
    exact finA_drop rfl
end Go.Proofs
