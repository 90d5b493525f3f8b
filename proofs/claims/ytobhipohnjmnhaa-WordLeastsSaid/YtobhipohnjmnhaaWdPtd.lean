/-
  Walk: what parts two states, by the reference.
-/
import Derived.Test.YtobhipohnjmnhaaWdPT
import Derived.Test.YtobhipohnjmnhaaWdPart
import Derived.Test.YtobhipohnjmnhaaWdR2
set_option linter.unusedSimpArgs false
set_option linter.unusedVariables false
set_option linter.unusedSectionVars false
namespace Go.Proofs
open Go Go.AH
set_option maxRecDepth 10000
set_option maxHeartbeats 4000000

theorem first_at {M : Dfa} (hM : M.wf) {k : Nat} (hk : k < M.next.length) (h1 : ∀ j, j < k → M.good.getD j false = false) (h2 : M.good.getD k false = true) : firstF M = some (wd M k) := by
  have : (wItems M).find? (fun x => M.good.getD x.1 false) = some (k, wd M k) := by
    rw [List.find?_eq_some_iff_getElem]
    refine ⟨h2, k, by simpa [wItems] using hk, by simp [wItems, wd], fun j hj => ?_⟩
    have := h1 j hj
    simpa [wItems] using this
  unfold firstF; rw [this]; rfl
theorem first_no {M : Dfa} (h1 : ∀ j, j < M.next.length → M.good.getD j false = false) : firstF M = none := by
  have : (wItems M).find? (fun x => M.good.getD x.1 false) = none := by
    rw [List.find?_eq_none]
    intro x hx
    simp only [wItems, List.mem_map, List.mem_range] at hx
    obtain ⟨j, hj, rfl⟩ := hx
    have := h1 j hj
    simp only [this]; simp
  unfold firstF; rw [this]; rfl

/-- Three cells an item. -/
def pfl (l : List (Tw × List UInt8)) : List AV := l.flatMap fun x => [.int .i64 (x.1.a : Int), .int .i64 (x.1.b : Int), .str x.2]
theorem pfl_app (a b : List (Tw × List UInt8)) : pfl (a ++ b) = pfl a ++ pfl b := by simp [pfl]
@[simp] theorem pfl_len (l : List (Tw × List UInt8)) : (pfl l).length = l.length * 3 := by
  induction l with
  | nil => rfl
  | cons x l ih => simp only [pfl, List.flatMap_cons, List.length_append, List.length_cons, List.length_nil] at ih ⊢; omega
theorem pfl_drop : ∀ (l : List (Tw × List UInt8)) (a : Nat) (x : Tw × List UInt8), l[a]? = some x → ∃ r, (pfl l).drop (a * 3) = .int .i64 (x.1.a : Int) :: .int .i64 (x.1.b : Int) :: .str x.2 :: r
  | [], a, x, h => by simp at h
  | y :: l, 0, x, h => by
    simp only [List.getElem?_cons_zero, Option.some.injEq] at h
    subst h
    exact ⟨pfl l, rfl⟩
  | y :: l, a + 1, x, h => by
    obtain ⟨r, hr⟩ := pfl_drop l a x (by simpa using h)
    refine ⟨r, ?_⟩
    rw [← hr, show (a + 1) * 3 = a * 3 + 3 from by omega]
    simp [pfl]
/-- The first L keys and their words. -/
def itsF (M : Dfa) (keys : List Tw) (L : Nat) : List (Tw × List UInt8) := (List.range L).map fun j => (keys.getD j ⟨0, 0⟩, wd M j)
theorem its_succ (M : Dfa) (keys : List Tw) (L : Nat) : itsF M keys (L + 1) = itsF M keys L ++ [(keys.getD L ⟨0, 0⟩, wd M L)] := by simp [itsF, List.range_succ]
@[simp] theorem its_len (M : Dfa) (keys : List Tw) (L : Nat) : (itsF M keys L).length = L := by simp [itsF]
theorem its_get (M : Dfa) (keys : List Tw) (L j : Nat) (h : j < L) : (itsF M keys L)[j]? = some (keys.getD j ⟨0, 0⟩, wd M j) := by simp [itsF, h]
/-- Which pairs have been seen. -/
def encT (n : Nat) (x : Tw) : Nat := x.a * n + x.b
def snF (N n : Nat) (keys : List Tw) (L : Nat) : List Bool := (List.range N).map fun q => ((keys.take L).map (encT n)).contains q
@[simp] theorem sn_len (N n : Nat) (keys : List Tw) (L : Nat) : (snF N n keys L).length = N := by simp [snF]
theorem sn_get (N n : Nat) (keys : List Tw) (L q : Nat) (h : q < (snF N n keys L).length) : (snF N n keys L)[q] = ((keys.take L).map (encT n)).contains q := by simp [snF]
theorem sn_succ (N n : Nat) (keys : List Tw) (L : Nat) (hL : L < keys.length) : snF N n keys (L + 1) = (snF N n keys L).set (encT n keys[L]) true := by
  refine List.ext_getElem (by simp) fun q h1 h2 => ?_
  rw [sn_get, List.getElem_set]
  rw [← List.take_append_getElem hL, List.map_append, List.contains_append]
  split
  · next e => simp [e]
  · next e =>
    rw [sn_get]
    have : ¬ q = encT n keys[L] := fun h => e h.symm
    simp [this]
theorem sn_zero (N n : Nat) (keys : List Tw) : snF N n keys 0 = List.replicate N false := by
  refine List.ext_getElem (by simp) fun q h1 h2 => ?_
  rw [sn_get]; simp
theorem enc_inj {n : Nat} {x y : Tw} (hx : x.b < n) (hy : y.b < n) (e : encT n x = encT n y) : x = y := by
  unfold encT at e
  have e1 : (x.a * n + x.b) / n = (y.a * n + y.b) / n := by rw [e]
  have e2 : (x.a * n + x.b) % n = (y.a * n + y.b) % n := by rw [e]
  rw [Nat.mul_comm x.a, Nat.mul_comm y.a, Nat.mul_add_div (by omega), Nat.mul_add_div (by omega), Nat.div_eq_of_lt hx, Nat.div_eq_of_lt hy] at e1
  rw [Nat.mul_comm x.a, Nat.mul_comm y.a, Nat.mul_add_mod, Nat.mul_add_mod, Nat.mod_eq_of_lt hx, Nat.mod_eq_of_lt hy] at e2
  cases x; cases y; simp only at e1 e2; simp only [Tw.mk.injEq]; omega
theorem enc_lt {N n : Nat} {x : Tw} (ha : x.a < N) (hb : x.b < n) : encT n x < N * n := by
  unfold encT
  calc x.a * n + x.b < x.a * n + n := by omega
    _ = (x.a + 1) * n := by rw [Nat.succ_mul]
    _ ≤ N * n := Nat.mul_le_mul_right _ ha

theorem seen_iff {n : Nat} {keys : List Tw} (hnd : keys.Nodup) (hb : ∀ x ∈ keys, x.b < n) (L j : Nat) (hj : j < keys.length) : ((keys.take L).map (encT n)).contains (encT n keys[j]) = decide (j < L) := by
  by_cases h : j < L
  · rw [decide_eq_true h, List.contains_iff_mem]
    exact List.mem_map.2 ⟨keys[j], List.mem_take_iff_getElem.2 ⟨j, by omega, rfl⟩, rfl⟩
  · rw [decide_eq_false h]
    refine Bool.eq_false_iff.2 fun hc => ?_
    rw [List.contains_iff_mem] at hc
    obtain ⟨z, hz, e⟩ := List.mem_map.1 hc
    obtain ⟨i, hi, rfl⟩ := List.mem_take_iff_getElem.1 hz
    have := enc_inj (hb _ (List.getElem_mem _)) (hb _ (List.getElem_mem _)) e
    have := (List.getElem_inj hnd).1 this
    omega

structure PtG where
  k : Nat
  L : Nat
  bl : Nat
structure PtH where
  i : Nat
  L : Nat
  bl : Nat

theorem w_refParted (m m' : Dfa) (hm : m.wf) (hm' : m'.wf) (hk : m.k = m'.k) (hn : m.next.length * m'.next.length ≤ 1000000) (s t : Nat) (hs : s < m.next.length) (ht : t < m'.next.length) :
    Pure Try.prog 37 [m.av, .int .i64 s, m'.av, .int .i64 t] (match firstF (prodF m m' ⟨s, t⟩ (· != ·)) with | some w => .tup [.str w, .bool true] | none => .tup [.str [], .bool false]) := by
  refine pure_of (acalls_of Try.func37 rfl Try.call37 (by kernel_rfl) (by show _ ≤ (114 : Nat); simp) ?_)
  have hs0 : (Tw.mk s t).a < m.next.length ∧ (Tw.mk s t).b < m'.next.length := ⟨hs, ht⟩
  obtain ⟨keys, rows, ex, F, hF, F1, F2, F3, F4⟩ := prod_ok hm hm' hk ⟨s, t⟩ hs0
  have hkeys := (prod_bd hm hm' hk ⟨s, t⟩ hs0 F _ F4).2
  have hwp := prod_wf hm hm' hk ⟨s, t⟩ hs0 hn (· != ·)
  have hbf := prod_bf hm hm' hk ⟨s, t⟩ hs0 (· != ·)
  have hnd := (rIter_inv (prodN m m') (-1) (fun x => x.a < m.next.length ∧ x.b < m'.next.length) m.k (fun x i hx hi => ⟨nx_lt hm hx.1 hi, nx_lt hm' hx.2 (by omega)⟩) ⟨s, t⟩ hs0 F _ F4).1
  obtain ⟨gd, hgd⟩ : ∃ gd : Tw → Bool, gd = fun x => (m.good.getD x.a false != m'.good.getD x.b false) := ⟨_, rfl⟩
  have hres : prodF m m' ⟨s, t⟩ (· != ·) = ⟨m.k, rows, keys.map gd⟩ := by rw [hgd]; exact ex.eq _
  obtain ⟨M, hM⟩ : ∃ M, M = prodF m m' ⟨s, t⟩ (· != ·) := ⟨_, rfl⟩
  rw [← hM] at hwp hbf hres ⊢
  have hMk : M.k = m.k := by rw [hres]
  have hMn : M.next.length = keys.length := by rw [hres]; exact ex.rn
  have hMg : ∀ j (h : j < keys.length), M.good.getD j false = gd keys[j] := fun j h => by rw [hres]; simp [h]
  have hstep : ∀ a (ha : a < keys.length) i, i < m.k → ∃ h : nx M a i < keys.length, keys[nx M a i] = prodN m m' keys[a] i := fun a ha i hi => by
    obtain ⟨x, h1, h2⟩ := ex.step a ha i hi
    rw [List.getElem?_eq_getElem ha] at h1
    cases h1
    have e : (rows.getD a []).getD i 0 = nx M a i := by rw [hres]; rfl
    rw [e] at h2
    obtain ⟨h3, h4⟩ := List.getElem?_eq_some_iff.1 h2
    exact ⟨h3, h4⟩
  have hkn := ex.nN
  have hfirst : keys[0]? = some ⟨s, t⟩ := ex.first
  clear hM F2 F3 F4
  simp [Dfa.av]
  intro b4 hb4
  simp
  intro b6 hb6
  simp at hb6
  simp [hb6, nrowsA]
  obtain ⟨B, hB⟩ : ∃ B, B = m'.next.length := ⟨_, rfl⟩
  obtain ⟨N, hN⟩ : ∃ N, N = m.next.length * m'.next.length := ⟨_, rfl⟩
  have hN2 : (m.next.length : Int) * (m'.next.length : Int) = (N : Int) := by rw [hN]; exact (Int.natCast_mul _ _).symm
  have hwN : IntKind.i64.wrap (N : Int) = N := wrap_i64 (by omega) (by omega)
  have hbd : ∀ x : Tw, x.a < m.next.length → x.b < m'.next.length → IntKind.i64.wrap ((x.a : Int) * (m'.next.length : Int)) = (x.a : Int) * (m'.next.length : Int) ∧ IntKind.i64.wrap ((x.a : Int) * (m'.next.length : Int) + (x.b : Int)) = (encT B x : Nat) ∧ encT B x < N := fun x ha hb => by
    have h1 := enc_lt (N := m.next.length) ha hb
    have h2 : (x.a : Int) * (m'.next.length : Int) = ((x.a * m'.next.length : Nat) : Int) := (Int.natCast_mul _ _).symm
    have h3 : encT m'.next.length x = x.a * m'.next.length + x.b := rfl
    rw [hB, h2]
    refine ⟨wrap_i64 (by omega) (by omega), ?_, by rw [hN]; exact h1⟩
    rw [wrap_i64 (by omega) (by omega)]; omega
  have hWN : IntKind.i64.wrap ((m.next.length : Int) * (m'.next.length : Int)) = N := by rw [hN2, hwN]
  simp [hWN]
  refine ⟨by omega, ?_⟩
  intro bs hbs
  simp at hbs
  simp [hb6, hbs, hWN]
  have hz3 : zcells [.int .i64 0, .int .i64 0, .str []] 1 = [.int .i64 0, .int .i64 0, .str []] := rfl
  have hsp : ∀ a b c : AV, splice [.int .i64 0, .int .i64 0, .str []] 0 [a, b, c] = [a, b, c] := fun _ _ _ => rfl
  simp [hz3, hsp, hWN]
  intro bl0 hbl0
  simp at hbl0
  obtain ⟨w1, w2, w3⟩ := hbd ⟨s, t⟩ hs ht
  simp only at w1 w2
  simp [hb6, hbs, hbl0, w1, w2, w3, hWN]
  have h0k : 0 < keys.length := by omega
  have hk0 : keys[0] = ⟨s, t⟩ := by rw [List.getElem?_eq_getElem h0k] at hfirst; exact Option.some.inj hfirst
  have hsn1 : (List.replicate N (AV.bool false)).set (encT B ⟨s, t⟩) (.bool true) = (snF N B keys 1).map .bool := by
    rw [sn_succ N B keys 0 h0k, sn_zero, List.map_set, List.map_replicate, hk0]
  have hpf1 : pfl (itsF M keys 1) = [.int .i64 (s : Int), .int .i64 (t : Int), .str []] := by
    have hw0 : wd M 0 = [] := by simp [wd, wIter, hMn, h0k]
    simp [itsF, pfl, h0k, hk0, hw0]
  have hh0 : Half (prodN m m') m.k keys M 0 0 1 := Half.zero (by omega)
  refine ⟨by omega, ?_⟩
  rw [hsn1]
  refine awp_loop_g (γ := PtG) (fun g t h => ((g.k < g.L ∧ Half (prodN m m') m.k keys M g.k 0 g.L) ∨ (g.k = g.L ∧ g.L = keys.length)) ∧ (∀ j (hj : j < keys.length), j < g.k → gd keys[j] = false) ∧ (∀ off, cellsAt h b4 off = some (([.int .i64 (m.k : Int), .sl m.next.length (m.next.map natsA), boolsA m.good] : List AV).drop off)) ∧ (∀ off, cellsAt h b6 off = some (([.int .i64 (m'.k : Int), .sl m'.next.length (m'.next.map natsA), boolsA m'.good] : List AV).drop off)) ∧ (∀ off, cellsAt h bs off = some (((snF N B keys g.L).map AV.bool).drop off)) ∧ ((∀ off, cellsAt h g.bl off = some ((pfl (itsF M keys g.L)).drop off)) ∧ ¬ g.bl = bs ∧ ¬ bs = g.bl ∧ ¬ g.bl = b4 ∧ ¬ b4 = g.bl ∧ ¬ g.bl = b6 ∧ ¬ b6 = g.bl) ∧ t 4 = .ptr b4 0 ∧ t 6 = .ptr b6 0 ∧ t 10 = .osl bs 0 N 1 ∧ t 11 = .osl g.bl 0 g.L 3 ∧ t 12 = .int .i64 g.k) (fun g => F - g.k) (⟨0, 1, bl0⟩) (turnA_self (by simp [hh0, hpf1, hbs, hbl0, hb6])) ?_
  rintro g t h ⟨hh, hgood, hc4, hc6, hsn, hbl, h4, h6, h10, h11, h12⟩
  obtain ⟨k, L, bl⟩ := g
  simp only at h4 h6 h10 h11 h12 hh hgood hsn hbl
  by_cases hlt : k < L
  · obtain ⟨_, hh1⟩ | ⟨q1, _⟩ := hh
    rotate_left
    · omega
    have hkk : k < keys.length := by have := hh1.le; omega
    have hwk : IntKind.i64.wrap ((k : Int) + 1) = (k : Int) + 1 := wrap_i64 (by omega) (by omega)
    obtain ⟨x, hx⟩ : ∃ x, x = keys[k] := ⟨_, rfl⟩
    obtain ⟨hxa, hxb⟩ := hkeys keys[k] (List.getElem_mem hkk)
    rw [← hx] at hxa hxb
    have ga : x.a < m.good.length := by rw [hm.gl]; exact hxa
    have gb : x.b < m'.good.length := by rw [hm'.gl]; exact hxb
    have hgx : gd x = (m.good[x.a] != m'.good[x.b]) := by rw [hgd]; simp [ga, gb]
    have hit : (itsF M keys L)[k]? = some (x, wd M k) := by rw [its_get M keys L k hlt, hx]; simp [hkk]
    obtain ⟨rr, hdr⟩ := pfl_drop _ k _ hit
    simp only at hdr
    have hwl := wd_len M (show k < M.next.length by omega)
    have hwl2 : M.k * k ≤ 4 * 1000000 := Nat.mul_le_mul hwp.k4 (by omega)
    obtain ⟨hb0, hb1, hb2, hb3, hb4', hb5, hb6'⟩ := hbl
    simp [h4, h6, h10, h11, h12, hlt, hb0, hdr]
    intro b13 hb13
    have n4 := ne_fresh (hc4 0) hb13; have n6 := ne_fresh (hc6 0) hb13; have ns := ne_fresh (hsn 0) hb13; have nl := ne_fresh (hb0 0) hb13
    simp [h4, h6, h10, h11, h12, hz3, hsp]
    refine awp_draw_text (by kernel_rfl) [] [] (by kernel_rfl) (by kernel_rfl) (by simp) ?_
    simp [h4, h6, h10, h11, h12, hc4, hc6, n4, n6, boolsA, ga, gb]
    by_cases hgg : m.good[x.a] = m'.good[x.b]
    · have hgf : gd keys[k] = false := by rw [← hx, hgx]; simp [hgg]
      have hgb : (m.good[x.a] == m'.good[x.b]) = true := by simp [hgg]
      simp [h4, h6, h10, h11, h12, hgb]
      have r1 : m.next[x.a].length = m.k := hm.rl _ (List.getElem_mem hxa)
      have r2 : m'.next[x.b].length = m'.k := hm'.rl _ (List.getElem_mem hxb)
      have hx13 : ∀ off, cellsAt (h.upd b13 (.cells [.int .i64 (x.a : Int), .int .i64 (x.b : Int), .str (wd M k)])) b13 off = some (([.int .i64 (x.a : Int), .int .i64 (x.b : Int), .str (wd M k)] : List AV).drop off) := by intro off; simp
      refine awp_loop_g (γ := PtH) (fun g t h => (g.i ≤ m.k) ∧ (Half (prodN m m') m.k keys M k g.i g.L) ∧ (∀ off, cellsAt h b4 off = some (([.int .i64 (m.k : Int), .sl m.next.length (m.next.map natsA), boolsA m.good] : List AV).drop off)) ∧ (∀ off, cellsAt h b6 off = some (([.int .i64 (m'.k : Int), .sl m'.next.length (m'.next.map natsA), boolsA m'.good] : List AV).drop off)) ∧ (∀ off, cellsAt h bs off = some (((snF N B keys g.L).map AV.bool).drop off)) ∧ (∀ off, cellsAt h b13 off = some (([.int .i64 (x.a : Int), .int .i64 (x.b : Int), .str (wd M k)] : List AV).drop off)) ∧ ((∀ off, cellsAt h g.bl off = some ((pfl (itsF M keys g.L)).drop off)) ∧ ¬ g.bl = bs ∧ ¬ bs = g.bl ∧ ¬ g.bl = b4 ∧ ¬ b4 = g.bl ∧ ¬ g.bl = b6 ∧ ¬ b6 = g.bl) ∧ (¬ g.bl = b13 ∧ ¬ b13 = g.bl) ∧ t 4 = .ptr b4 0 ∧ t 6 = .ptr b6 0 ∧ t 10 = .osl bs 0 N 1 ∧ t 11 = .osl g.bl 0 g.L 3 ∧ t 12 = .int .i64 k ∧ t 13 = .ptr b13 0 ∧ t 14 = .int .i64 g.i) (fun g => m.k - g.i) (⟨0, L, bl⟩) (turnA_self (by simp [h4, h6, h10, h11, h12, hh1, hc4, hc6, hsn, hb0, hb1, hb2, hb3, hb4', hb5, hb6', n4, n6, ns, nl])) ?_
      rintro g t h ⟨hi, hh, hc4, hc6, hsn, hc13, hbl, hnl, h4, h6, h10, h11, h12, h13, h14⟩
      clear hdr hit hb0 hb1 hb2 hb3 hb4' hb5 hb6' nl hb13 hlt hh1 hx13
      obtain ⟨i, L, bl⟩ := g
      simp only at h4 h6 h10 h11 h12 h13 h14 hi hh hsn hbl hnl
      obtain ⟨hb0, hb1, hb2, hb3, hb4', hb5, hb6'⟩ := hbl
      by_cases hlti : i < m.k
      · have hwi : IntKind.i64.wrap ((i : Int) + 1) = (i : Int) + 1 := wrap_i64 (by have := hm.k4; omega) (by have := hm.k4; omega)
        have hi2 : i < m'.k := by omega
        obtain ⟨hnxl, hnx⟩ := hstep k hkk i hlti
        obtain ⟨y, hy⟩ : ∃ y, y = prodN m m' x i := ⟨_, rfl⟩
        rw [← hx, ← hy] at hnx
        have v1 : m.next[x.a][i] = y.a := by rw [hy]; simp [prodN, nx, hxa, r1, hlti]
        have v2 : m'.next[x.b][i]'(by omega) = y.b := by rw [hy]; simp [prodN, nx, hxb, r2, hi2]
        obtain ⟨hya, hyb⟩ : y.a < m.next.length ∧ y.b < m'.next.length := by rw [← hnx]; exact hkeys _ (List.getElem_mem hnxl)
        obtain ⟨u1, u2, u3⟩ := hbd y hya hyb
        have hsv : (snF N B keys L)[encT B y]? = some (decide (nx M k i < L)) := by
          have h1 : encT B y < (snF N B keys L).length := by simp [u3]
          rw [List.getElem?_eq_getElem h1, sn_get, ← hnx, seen_iff hnd (fun z hz => by rw [hB]; exact (hkeys z hz).2)]
        have hsv2 : ∀ hv, (snF N B keys L)[encT B y]'hv = decide (nx M k i < L) := fun hv => by rw [List.getElem?_eq_getElem hv] at hsv; exact Option.some.inj hsv
        have hLk := hh.le
        have l1 : (wd M k).length + 1 < 4611686018427387904 := by omega
        simp [h4, h6, h10, h11, h12, h13, h14, hc4, hlti]
        refine awp_draw_text (by kernel_rfl) [90] [(.fn (.func 73) [] [], [.int .i64 (i : Int)], .str [ltr i])] (by kernel_rfl) (by kernel_rfl) (by simp; exact PureV.of (w_refletter i (by have := hm.k4; omega))) ?_
        simp [h4, h6, h10, h11, h12, h13, h14, hc4, hc6, hc13, natsA, hxa, hxb, r1, r2, hlti, hi2, v1, v2, l1, hz3, hsp]
        intro b15 hb15
        have k4 := ne_fresh (hc4 0) hb15; have k6 := ne_fresh (hc6 0) hb15; have ks := ne_fresh (hsn 0) hb15; have kl := ne_fresh (hb0 0) hb15; have k13 := ne_fresh (hc13 0) hb15
        simp [h4, h6, h10, h11, h12, h13, h14, hz3, hsp, k6, hc6, ks, hsn, u1, u2, u3, hsv2]
        obtain ⟨hA, hhA⟩ : ∃ hA, hA = h.upd b15 (.cells [.int .i64 (y.a : Int), .int .i64 (y.b : Int), .str (wd M k ++ [ltr i])]) := ⟨_, rfl⟩
        rw [← hhA]
        have gc4 : ∀ off, cellsAt hA b4 off = some (([.int .i64 (m.k : Int), .sl m.next.length (m.next.map natsA), boolsA m.good] : List AV).drop off) := by intro off; rw [hhA]; simp [k4, hc4]
        have gc6 : ∀ off, cellsAt hA b6 off = some (([.int .i64 (m'.k : Int), .sl m'.next.length (m'.next.map natsA), boolsA m'.good] : List AV).drop off) := by intro off; rw [hhA]; simp [k6, hc6]
        have gsn : ∀ off, cellsAt hA bs off = some (((snF N B keys L).map AV.bool).drop off) := by intro off; rw [hhA]; simp [ks, hsn]
        have gc13 : ∀ off, cellsAt hA b13 off = some (([.int .i64 (x.a : Int), .int .i64 (x.b : Int), .str (wd M k)] : List AV).drop off) := by intro off; rw [hhA]; simp [k13, hc13]
        have gb0 : ∀ off, cellsAt hA bl off = some ((pfl (itsF M keys L)).drop off) := by intro off; rw [hhA]; simp [kl, hb0]
        have gc15 : ∀ off, cellsAt hA b15 off = some (([.int .i64 (y.a : Int), .int .i64 (y.b : Int), .str (wd M k ++ [ltr i])] : List AV).drop off) := by intro off; rw [hhA]; simp
        clear hhA hc4 hc6 hsn hc13 hb0 hb15
        by_cases hL : nx M k i < L
        · simp [h4, h6, h10, h11, h12, h13, h14, hL]
          exact turnA_self ⟨⟨i + 1, L, bl⟩, by simp only; omega, by simp only; omega, hh.old hlti hL, gc4, gc6, gsn, gc13, ⟨gb0, hb1, hb2, hb3, hb4', hb5, hb6'⟩, hnl, by simp [h4, h6, h10, h11, h12, h13, h14, hwi]⟩
        · obtain ⟨f1, f2, f3, f4⟩ := hh.fresh hMk hlti hbf hMn hnxl hL
          have hyL : keys[L] = y := by
            have : keys[nx M k i] = keys[L] := by congr 1
            rw [← this, hnx]
          have hwp2 : wd M L = wd M k ++ [ltr i] := wd_par hwp hbf (by omega) f3
          have hits : pfl (itsF M keys (L + 1)) = pfl (itsF M keys L) ++ [.int .i64 (y.a : Int), .int .i64 (y.b : Int), .str (wd M k ++ [ltr i])] := by
            rw [its_succ, pfl_app, hwp2]; simp [pfl, f2, hyL]
          have hsn2 : (snF N B keys (L + 1)).map AV.bool = ((snF N B keys L).map AV.bool).set (encT B y) (.bool true) := by
            rw [sn_succ N B keys L f2, List.map_set, hyL]
          simp [h4, h6, h10, h11, h12, h13, h14, hL, gsn, gc15, u3, ks, hz3, hsp]
          refine ⟨by omega, ?_⟩
          intro b112 hb112
          simp at hb112
          have hF112 : Fresh hA b112 := by simp_all
          have p4 := ne_fresh (gc4 0) hF112; have p6 := ne_fresh (gc6 0) hF112; have ps := ne_fresh (gsn 0) hF112; have pl := ne_fresh (gb0 0) hF112; have p13 := ne_fresh (gc13 0) hF112
          have gb00 := gb0 0
          simp only [List.drop_zero] at gb00
          simp [h4, h6, h10, h11, h12, h13, h14, hb1, hb2, pl, gb00]
          refine ⟨by omega, ?_⟩
          intro bl2 hbl2
          simp [hb1, hb2, pl] at hbl2
          have hq : ¬ bl2 = bs ∧ ¬ bs = bl2 ∧ ¬ bl2 = b4 ∧ ¬ b4 = bl2 ∧ ¬ bl2 = b6 ∧ ¬ b6 = bl2 ∧ ¬ bl2 = b13 ∧ ¬ b13 = bl2 := by
            rcases hbl2.2.2.2.2 with rfl | hf
            · exact ⟨hb1, hb2, hb3, hb4', hb5, hb6', hnl.1, hnl.2⟩
            · have q4 := ne_fresh (gc4 0) hf; have q6 := ne_fresh (gc6 0) hf; have qs := ne_fresh (gsn 0) hf; have q13 := ne_fresh (gc13 0) hf
              exact ⟨qs.2, qs.1, q4.2, q4.1, q6.2, q6.1, q13.2, q13.1⟩
          obtain ⟨q1, q2, q3, q4, q5, q6, q7, q8⟩ := hq
          simp [h4, h6, h10, h11, h12, h13, h14]
          refine turnA_self ⟨⟨i + 1, L + 1, bl2⟩, by simp only; omega, by simp only; omega, f4, ?_, ?_, ?_, ?_, ⟨?_, q1, q2, q3, q4, q5, q6⟩, ⟨q7, q8⟩, by simp [h4, h6, h10, h11, h12, h13, h14, hwi]⟩
          · intro off; simp [p4, q4, hb4', gc4, hb3, hbs]
          · intro off; simp [p6, q6, hb6', gc6, hb5, hbs]
          · intro off; simp [ps, q2, hb2, gsn, hsn2]
          · intro off; simp [p13, q8, gc13, hnl, ns]
          · intro off; simp [hits]
      · obtain rfl : i = m.k := by omega
        simp [h4, h6, h10, h11, h12, h13, h14, hc4]
        have hnext : (k + 1 < L ∧ Half (prodN m m') m.k keys M (k + 1) 0 L) ∨ (k + 1 = L ∧ L = keys.length) := by
          by_cases hc : k + 1 < L
          · exact .inl ⟨hc, hh.next hc⟩
          · have := hh.aL
            exact .inr ⟨by omega, hh.done hMk hc hbf hMn⟩
        refine turnA_self ⟨⟨k + 1, L, bl⟩, by simp only; omega, hnext, fun j hj hjk => ?_, hc4, hc6, hsn, ⟨hb0, hb1, hb2, hb3, hb4', hb5, hb6'⟩, by simp [h4, h6, h10, h11, h12, h13, h14, hwk]⟩
        by_cases e : j = k
        · subst e; exact hgf
        · exact hgood j hj (by simp only at hjk; omega)
    · have hgt : M.good.getD k false = true := by rw [hMg k hkk, ← hx, hgx]; simp [hgg]
      have hgb : (m.good[x.a] == m'.good[x.b]) = false := by simp [hgg]
      simp [h4, h6, h10, h11, h12, hgb]
      refine finA_drop ?_
      rw [first_at hwp (by omega) (fun j hj => by rw [hMg j (by omega)]; exact hgood j (by omega) hj) hgt]
  · obtain ⟨q0, _⟩ | ⟨q1, q2⟩ := hh
    · exact absurd q0 hlt
    · simp [h4, h6, h10, h11, h12, hlt]
      refine finA_drop ?_
      rw [first_no fun j hj => by rw [hMg j (by omega)]; exact hgood j (by omega) (by omega)]

theorem w_refDiffer (m m' : Dfa) (hm : m.ok) (hm' : m'.ok) (hk : m.k = m'.k) : Pure Try.prog 35 [m.av, m'.av] (match firstF (prodF m m' ⟨0, 0⟩ (· != ·)) with | some w => .tup [.str w, .bool true] | none => .tup [.str [], .bool false]) := by
  refine pure_of (acalls_of Try.func35 rfl Try.call35 (by kernel_rfl) (by show _ ≤ (11 : Nat); simp) ?_)
  have hn : m.next.length * m'.next.length ≤ 64 * 64 := Nat.mul_le_mul hm.n64 hm'.n64
  have c := w_refParted m m' hm.wf hm'.wf hk (by omega) 0 0 (by have := hm.n1; omega) (by have := hm'.n1; omega)
  simp only [Dfa.av] at c ⊢
  simp
  intro b2 hb2
  simp
  intro b3 hb3
  simp at hb3
  simp [hb3]
  refine c.use ?_
  cases firstF (prodF m m' ⟨0, 0⟩ (· != ·)) with
  | none =>
    simp
    exact finA_drop rfl
  | some w =>
    simp
    exact finA_drop rfl
end Go.Proofs
