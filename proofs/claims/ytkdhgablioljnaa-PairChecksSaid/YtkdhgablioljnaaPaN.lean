/-
  Pair: the odd parts, by the program.
-/
import Derived.Test.YtkdhgablioljnaaPaM
import Derived.Test.YtkdhgablioljnaaPaI
set_option linter.unusedSimpArgs false
set_option linter.unusedVariables false
set_option linter.unusedSectionVars false
namespace Go.Proofs
open Go Go.AH
set_option maxRecDepth 10000
set_option maxHeartbeats 4000000

theorem okFrom_mem {P : Int} : ∀ {l : List Int} {a : Int}, -1 ≤ a → okFrom P a l = true → ∀ x ∈ l, 0 ≤ x ∧ x < P
  | [], _, _, _, x, h => nomatch h
  | y :: l, a, ha, h, x, hx => by
    simp only [okFrom, Bool.and_eq_true, decide_eq_true_eq] at h
    rcases List.mem_cons.1 hx with rfl | hx
    · omega
    · exact okFrom_mem (a := y) (by omega) h.2 x hx
theorem nbr_mem {n : Int} {es : List Ed} (g : GOk n es) (p : Nat) (c : Int) : c ∈ nbr (-1) es p ↔ joinB es p c = true := by
  unfold nbr joinB
  rw [List.mem_flatMap, List.any_eq_true]
  constructor
  · rintro ⟨e, he, h⟩
    refine ⟨e, he, ?_⟩
    split at h
    · cases h
    · rcases List.mem_append.1 h with h | h <;> split at h
      · next q => simp only [List.mem_singleton] at h; simp [q, h]
      · cases h
      · next q => simp only [List.mem_singleton] at h; simp [q, h]
      · cases h
  · rintro ⟨e, he, h⟩
    have ok := g.ed e he
    refine ⟨e, he, ?_⟩
    rw [if_neg (by have := ok.1; have := ok.2.2.1; omega)]
    simp only [Bool.or_eq_true, Bool.and_eq_true, decide_eq_true_eq] at h
    rcases h with ⟨h1, h2⟩ | ⟨h1, h2⟩
    · rw [if_pos h1]; simp [h2]
    · rw [if_pos h2]; simp [h1]
theorem joinB_rng {n : Int} {es : List Ed} (g : GOk n es) {a b : Int} (h : joinB es a b = true) : 0 ≤ a ∧ a < n ∧ 0 ≤ b ∧ b < n := by
  unfold joinB at h
  rw [List.any_eq_true] at h
  obtain ⟨e, he, h⟩ := h
  have ok := g.ed e he
  unfold edOk at ok
  simp only [Bool.or_eq_true, Bool.and_eq_true, decide_eq_true_eq] at h
  omega
theorem joinB_comm {es : List Ed} {a b : Int} : joinB es a b = joinB es b a := by
  unfold joinB
  congr 1
  funext e
  rw [Bool.or_comm]
structure OZ where
  k : Nat
  b : Nat
  q : List Int
  f : Nat → Bool
structure YZ where
  y : Nat
  b : Nat
  q : List Int
  f : Nat → Bool
structure OQ (J : Int → Int → Bool) (S : Int → Bool) (N : Nat) (a : Nat) (fl : List Int) (k : Nat) (q : List Int) (f : Nat → Bool) : Prop where
  st : StOk J S N a q
  see : ∀ j : Nat, f j = (S j || fl.contains (j : Int) || q.contains (j : Int))
  cl : ∀ i v, i < k → q[i]? = some v → ∀ c : Nat, c < N → J v c = true → f c = true
theorem OQ.add {J : Int → Int → Bool} {S : Int → Bool} {N a k : Nat} {fl q : List Int} {f : Nat → Bool} (o : OQ J S N a fl k q f) (hk : k ≤ q.length) {c : Nat} {v : Int} (hv : v ∈ q) (hJ : J v c = true) (hc : c < N) (hf : f c = false) : OQ J S N a fl k (q ++ [(c : Int)]) (upf f c true) := by
  have hs := o.see c
  rw [hf] at hs
  have hs := hs.symm
  simp only [Bool.or_eq_false_iff] at hs
  have hcq : (c : Int) ∉ q := by simpa using hs.2
  refine ⟨⟨?_, by simp [o.st.mem], ?_⟩, fun j => ?_, fun i w hi hw d hd hJd => ?_⟩
  · rw [List.nodup_append]
    refine ⟨o.st.nd, by simp, fun x hx y hy => ?_⟩
    simp only [List.mem_singleton] at hy
    subst hy
    intro e; subst e; exact hcq hx
  · intro x hx
    rcases List.mem_append.1 hx with hx | hx
    · exact o.st.con x hx
    · simp only [List.mem_singleton] at hx
      rw [hx]; exact .step c (o.st.con v hv) hc hJ hs.1.1
  · unfold upf
    by_cases e : j = c
    · subst e; simp
    · rw [if_neg e, o.see j]
      have : ¬ (j : Int) = c := by omega
      simp [this]
  · rw [List.getElem?_append_left (by omega)] at hw
    have := o.cl i w hi hw d hd hJd
    unfold upf
    split
    · rfl
    · exact this
theorem OQ.done {J : Int → Int → Bool} {S : Int → Bool} {N a : Nat} {fl q : List Int} {f : Nat → Bool} (hJ : ∀ a b, J a b = J b a) (ha : a < N) (hS : S a = false) (hfl : fl = (fallsB J S N a).flatten) (hnf : fl.contains (a : Int) = false) (o : OQ J S N a fl q.length q f) : q.length = (partB J S N a).length ∧ ∀ x, x ∈ q ↔ x ∈ partB J S N a := by
  have hm : ∀ x, x ∈ q ↔ Con J S N a x := by
    intro x
    constructor
    · exact o.st.con x
    · intro h
      induction h with
      | refl => exact o.st.mem
      | @step b c h h1 h2 h3 ih =>
        obtain ⟨i, hi, e⟩ := List.getElem_of_mem ih
        have hf := o.cl i b hi (by rw [List.getElem?_eq_getElem hi, e]) c h1 h2
        rw [o.see c, h3, Bool.false_or] at hf
        rcases Bool.or_eq_true_iff.1 hf with hf | hf
        · have hf : (c : Int) ∈ fl := by simpa using hf
          rw [hfl, fallsB_mem a (by omega)] at hf
          obtain ⟨a', p1, p2, p3⟩ := hf
          obtain ⟨b', rfl, q1, q2⟩ := h.ok ⟨a, rfl, ha, hS⟩
          have c1 : Con J S N a' b' := .step b' p3 q1 (by rw [hJ]; exact h2) q2
          have c2 : Con J S N b' a := h.symm hJ ⟨a, rfl, ha, hS⟩
          have : (a : Int) ∈ fl := by rw [hfl, fallsB_mem a (by omega)]; exact ⟨a', p1, p2, c1.trans c2⟩
          have : fl.contains (a : Int) = true := by simpa using this
          rw [hnf] at this; cases this
        · simpa using hf
  exact ⟨partB_len ha hS o.st.nd hm, fun x => by rw [hm, partB_mem ha hS]⟩
theorem lenA_oslI {h : AHeap} {b n : Nat} : lenA Try.prog h 24 (.osl b 0 n 1) = some (.int .i64 (n : Int)) := by simp
theorem w_odd (N : Nat) (es : List Ed) (hc : chkG N es = 0) (s : List Int) (hs : s.length ≤ 1000000) (hr : okFrom N (-1) s = true) :
    Pure Try.prog 64 [gV N es, intL s] (.int .i64 (oddOf N es s)) := by
  refine pure_of (acalls_of Try.func64 rfl Try.call64 (by kernel_rfl) (by show _ ≤ (76 : Nat); simp) ?_)
  obtain ⟨k1, k2, k3, g⟩ := chk_zero hc
  obtain ⟨V, hV⟩ : ∃ V, V = edL es := ⟨_, rfl⟩
  have hV1 : V.one = true := by rw [hV]; simp
  have hV2 : V.fit = true := by rw [hV]; simp
  have hV3 : V.cells = [V] := by rw [hV]; simp
  have hg : gV N es = .agg [.int .i64 N, V] := by rw [hV]; rfl
  have cn := fun H => w_newFinderH N es (-1) hc H
  rw [hg] at cn ⊢
  obtain ⟨J, hJ⟩ : ∃ J, J = joinB es := ⟨_, rfl⟩
  obtain ⟨S, hS⟩ : ∃ S : Int → Bool, S = fun x => s.contains x := ⟨_, rfl⟩
  unfold oddOf
  rw [← hJ, ← hS]
  obtain ⟨F, hF⟩ : ∃ F, F = fallsB J S N := ⟨_, rfl⟩
  rw [← hF]
  obtain ⟨R, hR⟩ : ∃ R : Nat → AV, R = fun p => intL (nbr (-1) es p) := ⟨_, rfl⟩
  rw [← hR] at cn
  simp [hV1, hV2, hV3]
  intro b2 hb2
  simp
  refine ACalls.mono (cn _) ?_
  rintro _ _ ⟨W, hW, rfl, rfl⟩
  have hWb : ¬ W = b2 ∧ ¬ b2 = W := by
    have : ¬ W = b2 := fun e => by rw [e] at hW; simp [AHeap.upd] at hW
    exact ⟨this, Ne.symm this⟩
  simp [hWb, -Try.zeroT107, zero107, -Try.zeroT110, zero110]
  have ht : List.take 40 (fC (N : Int) R (fun _ => -1) (fun _ => 0) (fun _ => 0) (fun _ => false) .nilsl).tail = rarr 40 R := by
    rw [← List.drop_one]; exact fC_rows
  intro bt hbt
  simp at hbt
  have hsp : splice (rarr 40 fun _ => .nilsl) 0 (rarr 40 R) = rarr 40 R := by unfold splice; simp
  have hsl : ∀ h : AHeap, lenA Try.prog h 24 (intL s) = some (.int .i64 (s.length : Int)) := fun h => lenA_intL s
  simp [hbt, hWb, ht, hsp, -Try.zeroT110, zero110]
  intro bs hbs
  simp at hbs
  simp [hbs, hbt, hWb, hsl, -lenA]
  obtain ⟨mk, hmk⟩ : ∃ mk : Nat → Nat → Bool, mk = fun i (j : Nat) => (s.take i).contains (j : Int) := ⟨_, rfl⟩
  have mk0 : mk 0 = fun _ => false := by rw [hmk]; funext j; simp
  obtain ⟨h0, hh0⟩ : ∃ h0, h0 = (AHeap.empty.upd b2 (.cells [.int .i64 N, V])).upd W (.cells (fC N R (fun _ => -1) (fun _ => 0) (fun _ => 0) (fun _ => false) .nilsl)) := ⟨_, rfl⟩
  have c2 : ∀ off, cellsAt h0 b2 off = some (([.int .i64 N, V] : List AV).drop off) := fun off => by rw [hh0]; simp [hWb]
  have hbs0 : Fresh h0 bs := by rw [hh0]; simp [hbs]
  rw [← hh0]
  refine awp_loop_g (γ := Nat) (fun i t h => (i ≤ s.length) ∧ t 1 = intL s ∧ t 2 = .ptr b2 0 ∧ t 5 = .ptr bt 0 ∧ t 6 = .ptr bs 0 ∧ t 20 = intL s ∧ t 21 = .int .i64 s.length ∧ t 22 = .int .i64 i ∧ h = ((h0.upd bt (.cells (rarr 40 R))).upd bs (.cells (barr 40 (mk i))))) (fun i => s.length - i) (0) (turnA_self (by simp [mk0])) ?_
  rintro i t h ⟨hi, h1, h2, h5, h6, h20, h21, h22, rfl⟩
  by_cases hlt : i < s.length
  · have hltI : (i : Int) < (s.length : Int) := by omega
    have hwi : IntKind.i64.wrap ((i : Int) + 1) = (i : Int) + 1 := wrap_i64 (by omega) (by omega)
    obtain ⟨x, hx⟩ : ∃ x, s[i]? = some x := ⟨_, List.getElem?_eq_getElem hlt⟩
    have hat := intC_at hx
    have hxr := okFrom_mem (by omega) hr x (List.mem_of_getElem? hx)
    obtain ⟨c, rfl⟩ : ∃ c : Nat, x = c := ⟨x.toNat, by omega⟩
    have hc40 : c < 40 := by omega
    have hc39 : c ≤ 39 := by omega
    have hc40I : (c : Int) < 40 := by omega
    have hup : upf (mk i) c true = mk (i + 1) := by
      obtain ⟨hi', e'⟩ := List.getElem?_eq_some_iff.1 hx
      rw [hmk]
      funext j
      unfold upf
      simp only
      rw [List.take_succ_eq_append_getElem hi', e']
      by_cases e : j = c
      · subst e; simp
      · have : ¬ (j : Int) = c := by omega
        rw [if_neg e]; simp [this]
    simp [h1, h2, h5, h6, h20, h21, h22, hlt, hltI, intL_ne hlt, hat, hc40, hc39, hc40I, hbs, barr_set, splice_one, hup]
    exact turnA_self ⟨i + 1, by omega, by omega, by simp [h1, h2, h5, h6, h20, h21, h22, hwi, intL_ne hlt]⟩
  have his : i = s.length := by omega
  subst his
  have hmkS : mk s.length = fun j : Nat => S j := by rw [hmk, hS]; funext j; simp only; rw [List.take_length]
  rw [hmkS]
  simp [h1, h2, h5, h6, h20, h21, h22, hbs, hbt, c2]
  have F0 : F 0 = [] := by rw [hF]; rfl
  obtain ⟨sn, hsn⟩ : ∃ sn : Nat → Nat → Bool, sn = fun i (j : Nat) => S j || (F i).flatten.contains (j : Int) := ⟨_, rfl⟩
  have sn0 : sn 0 = fun j : Nat => S j := by rw [hsn]; funext j; simp [F0]
  refine awp_loop_g (γ := Nat) (fun i t h => (i ≤ N) ∧ t 2 = .ptr b2 0 ∧ t 5 = .ptr bt 0 ∧ t 6 = .ptr bs 0 ∧ t 9 = .int .i64 (oddsB (F i)) ∧ t 30 = .int .i64 N ∧ t 31 = .int .i64 i ∧ h = ((h0.upd bt (.cells (rarr 40 R))).upd bs (.cells (barr 40 (sn i))))) (fun i => N - i) (0) (turnA_self (by simp [h1, h2, h5, h6, h20, h21, h22, F0, oddsB, sn0])) ?_
  rintro i t h ⟨hi2, h2, h5, h6, h9, h30, h31, rfl⟩
  have hol := oddsB_le (ps := F i)
  have hFl : (F i).length ≤ i := by rw [hF]; exact fallsB_len i
  by_cases hlt2 : i < N
  rotate_left
  · obtain rfl : i = N := by omega
    simp [h2, h5, h6, h9, h30, h31]
    exact finA_drop rfl
  have hltI : (i : Int) < (N : Int) := by omega
  have hi40 : i < 40 := by omega
  have hi39 : i ≤ 39 := by omega
  have hi40I : (i : Int) < 40 := by omega
  have hwi : IntKind.i64.wrap ((i : Int) + 1) = (i : Int) + 1 := wrap_i64 (by omega) (by omega)
  obtain ⟨fl, hfl⟩ : ∃ fl, fl = (F i).flatten := ⟨_, rfl⟩
  have hFs : F (i + 1) = if S i || fl.contains (i : Int) then F i else F i ++ [partB J S N i] := by rw [hF, fallsB_succ, ← hF, hfl]
  obtain ⟨f, hf⟩ : ∃ f : Nat → Bool, f = sn i := ⟨_, rfl⟩
  have hfj : ∀ j : Nat, f j = (S j || fl.contains (j : Int)) := fun j => by rw [hf, hsn, hfl]
  rw [← hf]
  rw [← hfj i] at hFs
  simp [h2, h5, h6, h9, h30, h31, hlt2, hltI, hbs, hbt, hi40, hi40I, barr_dr hi40]
  obtain ⟨A, hA⟩ : ∃ A, f i = A := ⟨_, rfl⟩
  rw [hA] at hFs ⊢
  cases A with
  | true =>
    rw [if_pos rfl] at hFs
    have hss : sn (i + 1) = f := by rw [hf, hsn]; funext j; simp only; rw [hFs]
    simp [h2, h5, h6, h9, h30, h31]
    exact turnA_self ⟨i + 1, by omega, by omega, by simp [h2, h5, h6, h9, h30, h31, hwi, hFs, hss]⟩
  | false =>
    rw [if_neg (by simp)] at hFs
    simp [h2, h5, h6, h9, h30, h31, hbs, hbt, hi40, hi39, hi40I, barr_set, splice_one]
    intro bq0 hbq0
    simp at hbq0
    simp [h2, h5, h6, h9, h30, h31, hbs, hbt, hbq0]
    have hAB := Bool.or_eq_false_iff.1 ((hfj i).symm.trans hA)
    obtain ⟨h1, hh1⟩ : ∃ h1, h1 = h0.upd bt (.cells (rarr 40 R)) := ⟨_, rfl⟩
    have c2' : ∀ off, cellsAt h1 b2 off = some (([.int .i64 N, V] : List AV).drop off) := fun off => by rw [hh1]; simp [c2, hbt]
    have ct : ∀ off, cellsAt h1 bt off = some ((rarr 40 R).drop off) := fun off => by rw [hh1]; simp
    have f1 : Fresh h1 bs ∧ Fresh h1 bq0 := by rw [hh1]; simp [hbs, hbq0, hbs0]
    rw [← hh1]
    have i0 : intC [(i : Int)] = [.int .i64 (i : Int)] := rfl
    have hQ0 : OQ J S N i fl 0 [(i : Int)] (upf f i true) := by
      refine ⟨⟨by simp, by simp, fun x hx => ?_⟩, fun j => ?_, fun i' v h => absurd h (by omega)⟩
      · simp only [List.mem_singleton] at hx
        rw [hx]; exact .refl _
      · unfold upf
        by_cases e : j = i
        · subst e; simp
        · have : ¬ (j : Int) = i := by omega
          rw [if_neg e, hfj j]; simp [this]
    refine awp_loop_g (γ := OZ) (fun z t h => (z.k ≤ z.q.length) ∧ (Fresh h1 z.b ∧ ¬ z.b = bs ∧ ¬ bs = z.b) ∧ (OQ J S N i fl z.k z.q z.f) ∧ t 2 = .ptr b2 0 ∧ t 5 = .ptr bt 0 ∧ t 6 = .ptr bs 0 ∧ t 9 = .int .i64 (oddsB (F i)) ∧ t 30 = .int .i64 N ∧ t 31 = .int .i64 i ∧ t 11 = .osl z.b 0 z.q.length 1 ∧ t 12 = .int .i64 z.k ∧ h = (h1.upd bs (.cells (barr 40 z.f))).upd z.b (.cells (intC z.q))) (fun z => N - z.k) (⟨0, bq0, [(i : Int)], upf f i true⟩) (turnA_self ⟨by simp, by simp [f1, hbq0], hQ0, by simp [h2, h5, h6, h9, h30, h31, i0]⟩) ?_
    rintro z t hy ⟨hk, hb, hQ, h2, h5, h6, h9, h30, h31, h11, h12, ey⟩
    obtain ⟨k, bq, q, f2⟩ := z
    simp only at h2 h5 h6 h9 h30 h31 h11 h12 hk hb hQ hy ey
    rw [ey]
    clear ey
    obtain ⟨hb1, hb2', hb3⟩ := hb
    have hql := hQ.st.le hlt2 hAB.1
    by_cases hkl : k < q.length
    · have hklI : (k : Int) < (q.length : Int) := by omega
      have hwk : IntKind.i64.wrap ((k : Int) + 1) = (k : Int) + 1 := wrap_i64 (by omega) (by omega)
      obtain ⟨v', hv⟩ : ∃ v', q[k]? = some v' := ⟨_, List.getElem?_eq_getElem hkl⟩
      have hvm := List.mem_of_getElem? hv
      obtain ⟨v, rfl, hvN, _⟩ := (hQ.st.con v' hvm).ok ⟨i, rfl, hlt2, hAB.1⟩
      have hat := intC_at hv
      have hv40 : v < 40 := by omega
      have hv40I : (v : Int) < 40 := by omega
      have hbtq : ¬ bt = bq ∧ ¬ bq = bt := ne_fresh (ct 0) hb1
      have hbts : ¬ bt = bs ∧ ¬ bs = bt := ne_fresh (ct 0) f1.1
      obtain ⟨row, hrow⟩ : ∃ row, row = nbr (-1) es v := ⟨_, rfl⟩
      have hRv : R v = intL row := by rw [hR, hrow]
      have hrl := nbr_len (w := -1) (l := es) (p := v)
      rw [← hrow] at hrl
      have hrm : ∀ c, c ∈ row ↔ J v c = true := fun c => by rw [hrow, hJ]; exact nbr_mem g v c
      have hrr : ∀ c, c ∈ row → 0 ≤ c ∧ c < N := fun c hc => by
        have := (hrm c).1 hc
        rw [hJ] at this
        have := joinB_rng g this
        omega
      have hrl2 : ∀ h : AHeap, lenA Try.prog h 24 (intL row) = some (.int .i64 (row.length : Int)) := fun h => lenA_intL row
      simp [h2, h5, h6, h9, h30, h31, h11, h12, hkl, hklI, hat, hbtq, hbts, hb2', hb3, ct, hv40, hv40I, rarr_dr hv40, hRv, hrl2, -lenA, lenA_oslI]
      refine awp_loop_g (γ := YZ) (fun z t h => (z.y ≤ row.length) ∧ (Fresh h1 z.b ∧ ¬ z.b = bs ∧ ¬ bs = z.b) ∧ (k < z.q.length ∧ z.q[k]? = some (v : Int)) ∧ (OQ J S N i fl k z.q z.f) ∧ (∀ (i' : Nat) (c : Nat), i' < z.y → row[i']? = some (c : Int) → z.f c = true) ∧ t 2 = .ptr b2 0 ∧ t 5 = .ptr bt 0 ∧ t 6 = .ptr bs 0 ∧ t 9 = .int .i64 (oddsB (F i)) ∧ t 30 = .int .i64 N ∧ t 31 = .int .i64 i ∧ t 11 = .osl z.b 0 z.q.length 1 ∧ t 12 = .int .i64 k ∧ t 52 = intL row ∧ t 53 = .int .i64 row.length ∧ t 54 = .int .i64 z.y ∧ h = (h1.upd bs (.cells (barr 40 z.f))).upd z.b (.cells (intC z.q))) (fun z => row.length - z.y) (⟨0, bq, q, f2⟩) (turnA_self ⟨Nat.zero_le _, ⟨hb1, hb2', hb3⟩, ⟨hkl, hv⟩, hQ, (fun i' c h => absurd h (Nat.not_lt_zero _)), by simp [h2, h5, h6, h9, h30, h31, h11, h12]⟩) ?_
      rintro z t hw ⟨hy1, hyb, hyk, hyQ, hyr, h2, h5, h6, h9, h30, h31, h11, h12, h52, h53, h54, ew⟩
      obtain ⟨y, bx, qx, fx⟩ := z
      simp only at h2 h5 h6 h9 h30 h31 h11 h12 h52 h53 h54 hy1 hyb hyk hyQ hyr ew
      rw [ew]
      clear ew
      obtain ⟨hx1, hx2, hx3⟩ := hyb
      obtain ⟨hxk, hxv⟩ := hyk
      have hxl := hyQ.st.le hlt2 hAB.1
      have hbtx : ¬ bt = bx ∧ ¬ bx = bt := ne_fresh (ct 0) hx1
      by_cases hyl : y < row.length
      · have hylI : (y : Int) < (row.length : Int) := by omega
        have hwy : IntKind.i64.wrap ((y : Int) + 1) = (y : Int) + 1 := wrap_i64 (by omega) (by omega)
        obtain ⟨c', hc'⟩ : ∃ c', row[y]? = some c' := ⟨_, List.getElem?_eq_getElem hyl⟩
        have hcr := hrr c' (List.mem_of_getElem? hc')
        obtain ⟨c, rfl⟩ : ∃ c : Nat, c' = c := ⟨c'.toNat, by omega⟩
        have hcJ := (hrm c).1 (List.mem_of_getElem? hc')
        have hac := intC_at hc'
        have hc40 : c < 40 := by omega
        have hc39 : c ≤ 39 := by omega
        have hc40I : (c : Int) < 40 := by omega
        simp [h2, h5, h6, h9, h30, h31, h11, h12, h52, h53, h54, hyl, hylI, intL_ne hyl, hac, hx2, hx3, hc40, hc40I, barr_dr hc40]
        obtain ⟨B, hB⟩ : ∃ B, fx c = B := ⟨_, rfl⟩
        rw [hB]
        cases B with
        | true =>
          simp [h2, h5, h6, h9, h30, h31, h11, h12, h52, h53, h54]
          refine turnA_self ⟨⟨y + 1, bx, qx, fx⟩, by simp only; omega, by simp only; omega, ⟨hx1, hx2, hx3⟩, ⟨hxk, hxv⟩, hyQ, fun i' d hi' hd => ?_, by simp [h2, h5, h6, h9, h30, h31, h11, h12, h52, h53, h54, hwy, intL_ne hyl]⟩
          simp only at hi'
          by_cases e : i' = y
          · subst e; rw [hc'] at hd; cases hd; exact hB
          · exact hyr i' d (by omega) hd
        | false =>
          have hadd := hyQ.add (Nat.le_of_lt hxk) (List.mem_of_getElem? hxv) hcJ (by omega) hB
          simp [h2, h5, h6, h9, h30, h31, h11, h12, h52, h53, h54, hx2, hx3, hc40, hc39, hc40I, barr_set, splice_one]
          intro bn hbn
          simp at hbn
          have hdel : h1.del bx = h1 := by
            funext y
            by_cases e : y = bx
            · subst e; rw [AHeap.del_same]; exact hx1.symm
            · exact AHeap.del_ne e
          simp [h2, h5, h6, h9, h30, h31, h11, h12, h52, h53, h54, hbn, hx2, hdel]
          have hbn1 : Fresh (h1.upd bs (.cells (barr 40 (upf fx c true)))) bn := by simp [hbn]
          refine ⟨by omega, fun b' hb' => ?_⟩
          simp at hb'
          have hts : intC qx ++ [.int .i64 (c : Int)] = intC (qx ++ [(c : Int)]) := by simp [intC]
          rw [hts]
          simp [h2, h5, h6, h9, h30, h31, h11, h12, h52, h53, h54, hb']
          refine turnA_to ((h1.upd bs (.cells (barr 40 (upf fx c true)))).upd b' (.cells (intC (qx ++ [(c : Int)])))) ?_ ⟨⟨y + 1, b', qx ++ [(c : Int)], upf fx c true⟩, by simp only; omega, by simp only; omega, by simp [hb'], ⟨by simp; omega, by simp only; rw [List.getElem?_append_left hxk]; exact hxv⟩, hadd, fun i' d hi' hd => ?_, by simp [h2, h5, h6, h9, h30, h31, h11, h12, h52, h53, h54, hwy, intL_ne hyl]⟩
          · exact Drop.both (Drop.new (Drop.refl _) (by simpa [Fresh] using hbn1))
          · simp only at hi'
            show upf fx c true d = true
            unfold upf
            split
            · rfl
            · next ne =>
              by_cases e : i' = y
              · subst e; rw [hc'] at hd; cases hd; exact absurd rfl ne
              · exact hyr i' d (by omega) hd
      · obtain rfl : y = row.length := by omega
        simp [h2, h5, h6, h9, h30, h31, h11, h12, h52, h53, h54]
        refine turnA_self ⟨⟨k + 1, bx, qx, fx⟩, by simp only; omega, by simp only; omega, ⟨hx1, hx2, hx3⟩, ⟨hyQ.st, hyQ.see, fun i' w hi' hw d hd hJd => ?_⟩, by simp [h2, h5, h6, h9, h30, h31, h11, h12, h52, h53, h54, hwk]⟩
        have hi2 : i' < k + 1 := hi'
        by_cases e : i' = k
        · subst e
          rw [hxv] at hw
          cases hw
          obtain ⟨i2, hi2, e2⟩ := List.getElem_of_mem ((hrm d).2 hJd)
          exact hyr i2 d hi2 (by rw [List.getElem?_eq_getElem hi2, e2])
        · exact hyQ.cl i' w (by omega) hw d hd hJd
    · obtain rfl : k = q.length := by omega
      have hJc : ∀ a b, J a b = J b a := fun a b => by rw [hJ]; exact joinB_comm
      obtain ⟨e1, e2⟩ := hQ.done hJc hlt2 hAB.1 (by rw [hfl, hF]) hAB.2
      have hm : (q.length : Int).tmod 2 = ((q.length % 2 : Nat) : Int) := by rw [Int.tmod_eq_emod_of_nonneg (by omega)]; omega
      have hod : oddsB (F (i + 1)) = oddsB (F i) + q.length % 2 := by rw [hFs, oddsB_snoc, e1]
      have hw3 : IntKind.i64.wrap ((oddsB (F i) : Int) + (q.length : Int) % 2) = (oddsB (F (i + 1)) : Int) := by rw [wrap_i64 (by omega) (by omega), hod]; omega
      have hss : sn (i + 1) = f2 := by
        funext j
        rw [hQ.see j, hsn]
        simp only
        rw [show (F (i + 1)).flatten = fl ++ partB J S N i from by rw [hFs, hfl]; simp]
        rw [Bool.eq_iff_iff]
        simp [e2, or_assoc]
      simp [h2, h5, h6, h9, h30, h31, h11, h12, hm]
      refine turnA_to (h1.upd bs (.cells (barr 40 f2))) (Drop.new (Drop.refl _) ?_) ⟨i + 1, by omega, by omega, by simp [h2, h5, h6, h9, h30, h31, h11, h12, hwi, hw3, hss]⟩
      have : Fresh (h1.upd bs (.cells (barr 40 f2))) bq := by simp [hb1, hb2', hb3]
      simpa [Fresh] using this
end Go.Proofs
