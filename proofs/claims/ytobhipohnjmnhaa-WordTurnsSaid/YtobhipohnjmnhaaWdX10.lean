/-
  Plain law and walk: the law WordNerode.
-/
import Derived.Test.YtobhipohnjmnhaaWdWd
import Derived.Test.YtobhipohnjmnhaaWdPart
import Derived.Test.YtobhipohnjmnhaaV6
set_option linter.unusedSimpArgs false
set_option linter.unusedVariables false
set_option linter.unusedSectionVars false
namespace Go.Proofs
open Go Go.AH
set_option maxRecDepth 10000
set_option maxHeartbeats 4000000

theorem okErr {k : Nat} (_ : k ≤ 4) {w : List UInt8} (hg : ∀ b ∈ w, badB k b = false) (hl : w.length ≤ 5000) : wordErr k w = 0 := by
  unfold wordErr
  rw [if_neg (by rw [List.any_eq_true]; rintro ⟨x, hx, hb⟩; rw [hg x hx] at hb; cases hb), if_neg (by omega)]
theorem tame_n (a : RAuto) (k most : Nat) (h : 1 ≤ most) : (tameF a k most).next.length ≤ most := by
  simp only [tameF, tameRows, List.length_map, List.length_range, tameN]; omega

theorem part_some {m : Dfa} (hm : m.ok) {s t : Nat} (hs : s < m.next.length) (ht : t < m.next.length) {w : List UInt8} (e : partF m s t = some w) :
    m.good.getD (goW m s (lts w)) false ≠ m.good.getD (goW m t (lts w)) false ∧ (∀ b ∈ w, badB m.k b = false) ∧ w.length ≤ m.k * (m.next.length * m.next.length) := by
  have hn : m.next.length * m.next.length ≤ 64 * 64 := Nat.mul_le_mul hm.n64 hm.n64
  have hwf := prod_wf hm.wf hm.wf rfl ⟨s, t⟩ ⟨hs, ht⟩ (by omega) (· != ·)
  obtain ⟨h1, h2, h3⟩ := first_some hwf (prod_bf hm.wf hm.wf rfl ⟨s, t⟩ ⟨hs, ht⟩ (· != ·)) e
  rw [prod_k] at h2 h3
  rw [prod_acc hm.wf hm.wf rfl ⟨s, t⟩ ⟨hs, ht⟩ (· != ·) _ (lts_ok h2)] at h1
  refine ⟨by simpa using h1, h2, Nat.le_trans h3 (Nat.mul_le_mul_left _ ?_)⟩
  obtain ⟨keys, rows, ex, _⟩ := prod_ok hm.wf hm.wf rfl ⟨s, t⟩ ⟨hs, ht⟩
  have : prodF m m ⟨s, t⟩ (· != ·) = _ := ex.eq _
  rw [this]
  have h4 := ex.rn; have h5 := ex.nN
  simp only; omega
theorem part_none {m : Dfa} (hm : m.ok) {s t : Nat} (hs : s < m.next.length) (ht : t < m.next.length) (e : partF m s t = none) (w : List Nat) (hw : Ok m.k w) : m.good.getD (goW m s w) false = m.good.getD (goW m t w) false := by
  have hn : m.next.length * m.next.length ≤ 64 * 64 := Nat.mul_le_mul hm.n64 hm.n64
  have hwf := prod_wf hm.wf hm.wf rfl ⟨s, t⟩ ⟨hs, ht⟩ (by omega) (· != ·)
  have h := first_none hwf e w (by rw [prod_k]; exact hw)
  rw [prod_acc hm.wf hm.wf rfl ⟨s, t⟩ ⟨hs, ht⟩ (· != ·) w hw] at h
  simpa using h

/-- Words that nothing parts lead to one state of the least machine. -/
theorem nerode {m : Dfa} (hm : m.wf) {u v : List Nat} (hu : Ok m.k u) (hv : Ok m.k v) :
    (∀ w, Ok m.k w → m.good.getD (goW m (goW m 0 u) w) false = m.good.getD (goW m (goW m 0 v) w) false) ↔ goW (leastF m) 0 u = goW (leastF m) 0 v := by
  have hk := least_k hm
  have c := least_canon hm
  have hn : 0 < (leastF m).next.length := by have := c.wf.n1; omega
  have hac : ∀ x w, Ok m.k x → Ok m.k w → (leastF m).good.getD (goW (leastF m) (goW (leastF m) 0 x) w) false = m.good.getD (goW m (goW m 0 x) w) false := fun x w hx hw => by
    have := least_acc hm (x ++ w) (hx.app hw)
    simpa only [accW, goW_app] using this
  constructor
  · intro h
    refine c.apart _ _ (goW_lt c.wf _ _ hn (by rw [hk]; exact hu)) (goW_lt c.wf _ _ hn (by rw [hk]; exact hv)) fun w hw => ?_
    rw [hk] at hw
    rw [hac u w hu hw, hac v w hv hw]; exact h w hw
  · intro h w hw
    rw [← hac u w hu hw, ← hac v w hv hw, h]
theorem part_least {m : Dfa} (hm : m.ok) {u v : List Nat} (hu : Ok m.k u) (hv : Ok m.k v) : (partF m (goW m 0 u) (goW m 0 v)).isSome = true ↔ goW (leastF m) 0 u ≠ goW (leastF m) 0 v := by
  have hn : 0 < m.next.length := by have := hm.n1; omega
  have su := goW_lt hm.wf u 0 hn hu; have sv := goW_lt hm.wf v 0 hn hv
  rw [ne_eq, ← nerode hm.wf hu hv]
  cases e : partF m (goW m 0 u) (goW m 0 v) with
  | none =>
    simp only [Option.isSome_none, Bool.false_eq_true, false_iff, Decidable.not_not]
    exact fun h => h fun w hw => part_none hm su sv e w hw
  | some w =>
    obtain ⟨h1, h2, _⟩ := part_some hm su sv e
    simp only [Option.isSome_some, true_iff]
    exact fun h => h1 (h _ (lts_ok h2))

theorem w_WordNerode (a : RAuto) (hs : a.sized) (w0 w1 : List UInt8) (hw0 : w0.length ≤ 4611686018427387904) (hw1 : w1.length ≤ 4611686018427387904) : Pure Try.prog 10 [a.av, .agg [.str w0, .str w1]] (.bool true) := by
  refine pure_of (acalls_of Try.func10 rfl Try.call10 (by kernel_rfl) (by show _ ≤ (170 : Nat); simp) ?_)
  obtain ⟨hl1, hl4⟩ := letters_bd a.letters
  have cl := w_letters a.letters
  obtain ⟨K, hK⟩ : ∃ K : Nat, lettersF a.letters = K := ⟨(lettersF a.letters).toNat, by omega⟩
  rw [hK] at cl hl1 hl4
  have ct := w_tame a hs K 9 (by omega) (by omega) (by omega)
  have hmok := tame_ok a K 9 (by omega) (by omega) (by omega)
  have hmk : (tameF a K 9).k = K := rfl
  have hn9 := tame_n a K 9 (by omega)
  generalize tameF a K 9 = m at ct hmok hmk hn9
  have hmw := hmok.wf
  have ha : a.av = .agg [.int .i64 a.letters, rowsA a.next, boolsA a.good] := rfl
  rw [ha] at ct ⊢
  have cg := w_give (m.k : Int) (nrowsA m.next) (boolsA m.good) (by simp) (by simp) (by simp) (by simp) (by simp) (by simp)
  have c1 := w_Least m hmok
  have hln := least_n hmw
  have h64 : ¬ 64 < (leastF m).next.length := by omega
  rw [if_neg h64] at c1
  have c2 := w_Classes m hmok
  have hcl := classes_len (leastF m)
  have hSw := least_wf hmw
  have hSk := least_k hmw
  have hSb := (least_canon hmw).bf
  obtain ⟨S, hS⟩ : ∃ S, S = leastF m := ⟨_, rfl⟩
  obtain ⟨C, hC⟩ : ∃ C, C = classesF S := ⟨_, rfl⟩
  have hCi : ∀ i (h : i < C.length), C[i] = wd S i := fun i h => by
    have := classes_get S i
    rw [← hC, List.getElem?_eq_getElem h, if_pos (by rw [hS, ← hcl, ← hS, ← hC]; exact h)] at this
    exact Option.some.inj this
  rw [← hS] at c1 c2 hln hcl hSw hSk hSb
  rw [← hC] at c2 hcl
  have hCw : ∀ i (h : i < C.length), goW S 0 (lts C[i]) = i ∧ (∀ b ∈ C[i], badB m.k b = false) ∧ C[i].length ≤ 36 := fun i h => by
    rw [hCi i h]
    obtain ⟨q1, q2⟩ := wd_go hSw hSb (show i < S.next.length by omega)
    have q3 := wd_len S (show i < S.next.length by omega)
    have q4 : S.k * i ≤ 4 * 9 := Nat.mul_le_mul hSw.k4 (by omega)
    rw [hSk] at q2
    exact ⟨q1, q2, by omega⟩
  have hpl := fun (u v : List Nat) (hu : Ok m.k u) (hv : Ok m.k v) => part_least hmok hu hv
  rw [← hS] at hpl
  clear hC hCi
  simp only [Dfa.av, nrowsA] at c1 c2 ct cg
  simp
  intro b2 hb2
  simp
  intro b3 hb3
  simp at hb3
  simp [hb3]
  refine cl.use ?_
  simp [hb3]
  refine ct.use ?_
  simp
  refine cg.use ?_
  simp
  intro b6 hb6
  simp at hb6
  simp [hb3, hb6]
  refine c1.use ?_
  simp
  intro b7 hb7
  simp at hb7
  simp [hb3, hb6, hb7]
  refine c2.use ?_
  simp [hb3, hb6, hb7, strsA, hcl]
  intro b11 hb11
  simp at hb11
  simp [hb3, hb6, hb7, hb11]
  obtain ⟨HH, hHH⟩ : ∃ HH, HH = ((((AHeap.empty.upd b2 (.cells [.int .i64 a.letters, rowsA a.next, boolsA a.good])).upd b3 (.cells [.str w0, .str w1])).upd b6 (.cells [.int .i64 m.k, .sl m.next.length (m.next.map natsA), boolsA m.good])).upd b7 (.cells [.int .i64 S.k, .sl S.next.length (S.next.map natsA), boolsA S.good])).upd b11 (.cells [.int .i64 S.k, .sl S.next.length (S.next.map natsA), boolsA S.good]) := ⟨_, rfl⟩
  have e3 : ∀ off, cellsAt HH b3 off = some (([.str w0, .str w1] : List AV).drop off) := by intro off; rw [hHH]; simp [hb3, hb6, hb7, hb11]
  have e6 : ∀ off, cellsAt HH b6 off = some (([.int .i64 (m.k : Int), .sl m.next.length (m.next.map natsA), boolsA m.good] : List AV).drop off) := by intro off; rw [hHH]; simp [hb3, hb6, hb7, hb11]
  have e11 : ∀ off, cellsAt HH b11 off = some (([.int .i64 (S.k : Int), .sl S.next.length (S.next.map natsA), boolsA S.good] : List AV).drop off) := by intro off; rw [hHH]; simp [hb3, hb6, hb7, hb11]
  rw [← hHH]
  clear hHH c1 c2 ct cg cl
  refine awp_loop_g (γ := Nat) (fun i t h => (i ≤ C.length) ∧ t 3 = .ptr b3 0 ∧ t 5 = .int .i64 K ∧ t 6 = .ptr b6 0 ∧ t 9 = .sl C.length (C.map .str) ∧ t 11 = .ptr b11 0 ∧ t 12 = .int .i64 i ∧ h = HH) (fun i => C.length - i) (0) (turnA_self (by simp [hcl])) ?_
  rintro i t hO ⟨hi, h3, h5, h6, h9, h11, h12, hhO⟩
  rw [hhO]
  by_cases hlt : i < C.length
  · obtain ⟨g1, g2, g3⟩ := hCw i hlt
    have hwi : IntKind.i64.wrap ((i : Int) + 1) = (i : Int) + 1 := wrap_i64 (by omega) (by omega)
    have cf := w_refFrom S hSw 0 (by omega) C[i] (by omega) (by rw [hSk]; exact g2)
    rw [g1] at cf
    simp only [Dfa.av, nrowsA] at cf
    simp [h3, h5, h6, h9, h11, h12, hlt]
    refine awp_draw_text (by kernel_rfl) [75] [(.fn (.func 38) [] [], [.agg [.int .i64 S.k, .sl S.next.length (S.next.map natsA), boolsA S.good], .int .i64 0, .str C[i]], .int .i64 i)] (by kernel_rfl) (by kernel_rfl) (by simp; exact PureV.of cf) ?_
    simp [h3, h5, h6, h9, h11, h12, hlt, e11]
    refine awp_loop_g (γ := Nat) (fun j t h => (j ≤ i) ∧ t 3 = .ptr b3 0 ∧ t 5 = .int .i64 K ∧ t 6 = .ptr b6 0 ∧ t 9 = .sl C.length (C.map .str) ∧ t 11 = .ptr b11 0 ∧ t 12 = .int .i64 i ∧ t 13 = .int .i64 j ∧ h = HH) (fun j => i - j) (0) (turnA_self (by simp [h3, h5, h6, h9, h11, h12])) ?_
    rintro j t hN ⟨hj, h3, h5, h6, h9, h11, h12, h13, hhN⟩
    rw [hhN]
    by_cases hltj : j < i
    · have hjC : j < C.length := by omega
      obtain ⟨p1, p2, p3⟩ := hCw j hjC
      have hwj : IntKind.i64.wrap ((j : Int) + 1) = (j : Int) + 1 := wrap_i64 (by omega) (by omega)
      have hne : C[i] ≠ C[j] := fun e => by rw [e, p1] at g1; omega
      have cp := w_Part m hmok C[i] C[j] (by omega) (by omega)
      have ei := okErr hmok.k4 g2 (show C[i].length ≤ 5000 by omega)
      have ej := okErr hmok.k4 p2 (show C[j].length ≤ 5000 by omega)
      have eij : wordsErr m.k [C[i], C[j]] = 0 := by simp [wordsErr, ei, ej]
      unfold partA at cp
      rw [if_pos eij] at cp
      have hsome := (hpl (lts C[i]) (lts C[j]) (lts_ok g2) (lts_ok p2)).2 (by rw [g1, p1]; omega)
      obtain ⟨w, hw⟩ := Option.isSome_iff_exists.1 hsome
      have hm0 : 0 < m.next.length := by have := hmok.n1; omega
      obtain ⟨w1', w2, w3⟩ := part_some hmok (goW_lt hmw _ 0 hm0 (lts_ok g2)) (goW_lt hmw _ 0 hm0 (lts_ok p2)) hw
      have w4 : m.k * (m.next.length * m.next.length) ≤ 4 * (9 * 9) := Nat.mul_le_mul hmok.k4 (Nat.mul_le_mul hn9 hn9)
      rw [hw] at cp
      have hbi : ∀ b ∈ C[i] ++ w, badB m.k b = false := fun b hb => (List.mem_append.1 hb).elim (g2 b) (w2 b)
      have hbj : ∀ b ∈ C[j] ++ w, badB m.k b = false := fun b hb => (List.mem_append.1 hb).elim (p2 b) (w2 b)
      have ca := w_Accepts m hmok (C[i] ++ w) (by simp; omega)
      have cb := w_Accepts m hmok (C[j] ++ w) (by simp; omega)
      unfold acceptsA at ca cb
      rw [if_pos (okErr hmok.k4 hbi (by simp; omega))] at ca
      rw [if_pos (okErr hmok.k4 hbj (by simp; omega))] at cb
      have hval : accW m (lts (C[i] ++ w)) ≠ accW m (lts (C[j] ++ w)) := by simp only [accW, lts_app, goW_app]; exact w1'
      simp only [Dfa.av, nrowsA] at cp ca cb
      have l1 : C[i].length + w.length < 4611686018427387904 := by omega
      have l2 : C[j].length + w.length < 4611686018427387904 := by omega
      simp [h3, h5, h6, h9, h11, h12, h13, hltj]
      refine awp_draw_text (by kernel_rfl) [93] [(.fn (.func 36) [] [], [.agg [.int .i64 m.k, .sl m.next.length (m.next.map natsA), boolsA m.good], .str C[i], .str C[j]], .tup [.str w, .bool true, .int .i64 0])] (by kernel_rfl) (by kernel_rfl) (by simp; exact PureV.of cp) ?_
      simp [h3, h5, h6, h9, h11, h12, h13, hlt, hjC, e6]
      refine awp_draw_text (by kernel_rfl) [105] [(.fn (.func 30) [] [], [.agg [.int .i64 m.k, .sl m.next.length (m.next.map natsA), boolsA m.good], .str (C[i] ++ w)], .tup [.bool (accW m (lts (C[i] ++ w))), .int .i64 0])] (by kernel_rfl) (by kernel_rfl) (by simp; exact PureV.of ca) ?_
      simp [h3, h5, h6, h9, h11, h12, h13, hlt, hjC, e6, l1]
      refine awp_draw_text (by kernel_rfl) [116] [(.fn (.func 30) [] [], [.agg [.int .i64 m.k, .sl m.next.length (m.next.map natsA), boolsA m.good], .str (C[j] ++ w)], .tup [.bool (accW m (lts (C[j] ++ w))), .int .i64 0])] (by kernel_rfl) (by kernel_rfl) (by simp; exact PureV.of cb) ?_
      have hvb : (accW m (lts (C[i] ++ w)) == accW m (lts (C[j] ++ w))) = false := by simp [hval]
      simp [h3, h5, h6, h9, h11, h12, h13, hlt, hjC, e6, l2, hvb]
      exact turnA_self ⟨j + 1, by omega, by omega, by simp [h3, h5, h6, h9, h11, h12, h13, hwj]⟩
    · obtain rfl : j = i := by omega
      simp [h3, h5, h6, h9, h11, h12, h13]
      exact turnA_self ⟨j + 1, by omega, by omega, by simp [h3, h5, h6, h9, h11, h12, h13, hwi]⟩
  · obtain rfl : i = C.length := by omega
    have c0 := w_text w0 hw0 K 15 (by omega) (by omega) (by omega)
    have c1 := w_text w1 hw1 K 15 (by omega) (by omega) (by omega)
    have ul := textF_len K 15 w0; have vl := textF_len K 15 w1
    have ug := textF_ok (k := K) (most := 15) (by omega) (by omega) w0
    have vg := textF_ok (k := K) (most := 15) (by omega) (by omega) w1
    obtain ⟨U, hU⟩ : ∃ U, U = textF K 15 w0 := ⟨_, rfl⟩
    obtain ⟨V, hV⟩ : ∃ V, V = textF K 15 w1 := ⟨_, rfl⟩
    rw [← hU] at c0 ul ug
    rw [← hV] at c1 vl vg
    simp [h3, h5, h6, h9, h11, h12]
    by_cases hww : w0 = w1
    · subst hww
      obtain rfl : U = V := hU.trans hV.symm
      refine awp_draw_text (by kernel_rfl) [141, 145] [(.fn (.func 33) [] [], [.str w0, .int .i64 K, .int .i64 15], .str U)] (by kernel_rfl) (by kernel_rfl) (by simp; exact PureV.of c0) ?_
      simp [h3, h5, h6, h9, h11, h12, e3]
      have eu := okErr (k := m.k) hmok.k4 (w := U) (by rw [hmk]; exact ug) (by omega)
      have ev := okErr (k := m.k) hmok.k4 (w := U) (by rw [hmk]; exact ug) (by omega)
      have euv : wordsErr m.k [U, U] = 0 := by simp [wordsErr, eu, ev]
      have cp := w_Part m hmok U U (by omega) (by omega)
      unfold partA at cp
      rw [if_pos euv] at cp
      have hpl2 := hpl (lts U) (lts U) (lts_ok (by rw [hmk]; exact ug)) (lts_ok (by rw [hmk]; exact ug))
      have f0 := w_refFrom S hSw 0 (by have := hSw.n1; omega) U (by omega) (by rw [hSk, hmk]; exact ug)
      have f1 := w_refFrom S hSw 0 (by have := hSw.n1; omega) U (by omega) (by rw [hSk, hmk]; exact ug)
      simp only [Dfa.av, nrowsA] at cp f0 f1
      generalize goW S 0 (lts U) = s at hpl2 f0 f1
      skip
      generalize partF m (goW m 0 (lts U)) (goW m 0 (lts U)) = P at hpl2 cp
      simp [h3, h5, h6, h9, h11, h12, e6]
      refine cp.use ?_
      cases P with
      | none =>
        have hsr : s = s := rfl
        simp [h3, h5, h6, h9, h11, h12]
        refine awp_draw_text (by kernel_rfl) [160, 163, 168] [(.fn (.func 38) [] [], [.agg [.int .i64 S.k, .sl S.next.length (S.next.map natsA), boolsA S.good], .int .i64 0, .str U], .int .i64 s), (.fn (.func 22) [] [], [], .bool true)] (by kernel_rfl) (by kernel_rfl) (by simp; exact ⟨PureV.of f0, PureV.of w_awake⟩) ?_
        simp [h3, h5, h6, h9, h11, h12, e11, e6, hsr]
        exact finA_drop rfl
      | some w =>
        exact absurd rfl (hpl2.1 rfl)
    · have hww' : ¬ w1 = w0 := fun e => hww e.symm
      refine awp_draw_text (by kernel_rfl) [141, 145] [(.fn (.func 33) [] [], [.str w0, .int .i64 K, .int .i64 15], .str U), (.fn (.func 33) [] [], [.str w1, .int .i64 K, .int .i64 15], .str V)] (by kernel_rfl) (by kernel_rfl) (by simp; exact ⟨PureV.of c0, PureV.of c1⟩) ?_
      simp [h3, h5, h6, h9, h11, h12, e3, hww, hww']
      clear hU hV
      by_cases hUV : U = V
      · subst hUV
        have eu := okErr (k := m.k) hmok.k4 (w := U) (by rw [hmk]; exact ug) (by omega)
        have ev := okErr (k := m.k) hmok.k4 (w := U) (by rw [hmk]; exact ug) (by omega)
        have euv : wordsErr m.k [U, U] = 0 := by simp [wordsErr, eu, ev]
        have cp := w_Part m hmok U U (by omega) (by omega)
        unfold partA at cp
        rw [if_pos euv] at cp
        have hpl2 := hpl (lts U) (lts U) (lts_ok (by rw [hmk]; exact ug)) (lts_ok (by rw [hmk]; exact ug))
        have f0 := w_refFrom S hSw 0 (by have := hSw.n1; omega) U (by omega) (by rw [hSk, hmk]; exact ug)
        have f1 := w_refFrom S hSw 0 (by have := hSw.n1; omega) U (by omega) (by rw [hSk, hmk]; exact ug)
        simp only [Dfa.av, nrowsA] at cp f0 f1
        generalize goW S 0 (lts U) = s at hpl2 f0 f1
        skip
        generalize partF m (goW m 0 (lts U)) (goW m 0 (lts U)) = P at hpl2 cp
        simp [h3, h5, h6, h9, h11, h12, e6]
        refine cp.use ?_
        cases P with
        | none =>
          have hsr : s = s := rfl
          simp [h3, h5, h6, h9, h11, h12]
          refine awp_draw_text (by kernel_rfl) [160, 163, 168] [(.fn (.func 38) [] [], [.agg [.int .i64 S.k, .sl S.next.length (S.next.map natsA), boolsA S.good], .int .i64 0, .str U], .int .i64 s), (.fn (.func 22) [] [], [], .bool true)] (by kernel_rfl) (by kernel_rfl) (by simp; exact ⟨PureV.of f0, PureV.of w_awake⟩) ?_
          simp [h3, h5, h6, h9, h11, h12, e11, e6, hsr]
          exact finA_drop rfl
        | some w =>
          exact absurd rfl (hpl2.1 rfl)
      · have hUV' : ¬ V = U := fun e => hUV e.symm
        have eu := okErr (k := m.k) hmok.k4 (w := U) (by rw [hmk]; exact ug) (by omega)
        have ev := okErr (k := m.k) hmok.k4 (w := V) (by rw [hmk]; exact vg) (by omega)
        have euv : wordsErr m.k [U, V] = 0 := by simp [wordsErr, eu, ev]
        have cp := w_Part m hmok U V (by omega) (by omega)
        unfold partA at cp
        rw [if_pos euv] at cp
        have hpl2 := hpl (lts U) (lts V) (lts_ok (by rw [hmk]; exact ug)) (lts_ok (by rw [hmk]; exact vg))
        have f0 := w_refFrom S hSw 0 (by have := hSw.n1; omega) U (by omega) (by rw [hSk, hmk]; exact ug)
        have f1 := w_refFrom S hSw 0 (by have := hSw.n1; omega) V (by omega) (by rw [hSk, hmk]; exact vg)
        simp only [Dfa.av, nrowsA] at cp f0 f1
        generalize goW S 0 (lts U) = s at hpl2 f0 f1
        generalize goW S 0 (lts V) = r at hpl2 f1
        generalize partF m (goW m 0 (lts U)) (goW m 0 (lts V)) = P at hpl2 cp
        simp [h3, h5, h6, h9, h11, h12, e6]
        refine cp.use ?_
        cases P with
        | none =>
          have hsr : s = r := by simpa using hpl2
          simp [h3, h5, h6, h9, h11, h12]
          refine awp_draw_text (by kernel_rfl) [160, 163, 168] [(.fn (.func 38) [] [], [.agg [.int .i64 S.k, .sl S.next.length (S.next.map natsA), boolsA S.good], .int .i64 0, .str U], .int .i64 s), (.fn (.func 38) [] [], [.agg [.int .i64 S.k, .sl S.next.length (S.next.map natsA), boolsA S.good], .int .i64 0, .str V], .int .i64 r), (.fn (.func 22) [] [], [], .bool true)] (by kernel_rfl) (by kernel_rfl) (by simp; exact ⟨PureV.of f0, PureV.of f1, PureV.of w_awake⟩) ?_
          simp [h3, h5, h6, h9, h11, h12, e11, hUV, hUV', hsr]
          exact finA_drop rfl
        | some w =>
          have hsr : ¬ s = r := by simpa using hpl2
          have hsrI : ¬ (s : Int) = r := by omega
          simp [h3, h5, h6, h9, h11, h12]
          refine awp_draw_text (by kernel_rfl) [160, 163, 168] [(.fn (.func 38) [] [], [.agg [.int .i64 S.k, .sl S.next.length (S.next.map natsA), boolsA S.good], .int .i64 0, .str U], .int .i64 s), (.fn (.func 38) [] [], [.agg [.int .i64 S.k, .sl S.next.length (S.next.map natsA), boolsA S.good], .int .i64 0, .str V], .int .i64 r), (.fn (.func 22) [] [], [], .bool true)] (by kernel_rfl) (by kernel_rfl) (by simp; exact ⟨PureV.of f0, PureV.of f1, PureV.of w_awake⟩) ?_
          simp [h3, h5, h6, h9, h11, h12, e11, hUV, hUV', hsr, hsrI]
          exact finA_drop rfl
end Go.Proofs
