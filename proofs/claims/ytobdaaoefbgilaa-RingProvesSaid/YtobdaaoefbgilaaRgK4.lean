/-
  Ring: the reference's IsRank and IsRound.
-/
import Derived.Test.YtobdaaoefbgilaaRgK3
import Derived.Test.YtobdaaoefbgilaaAhDm
set_option linter.unusedSimpArgs false
set_option linter.unusedVariables false
set_option linter.unusedSectionVars false
namespace Go.Proofs
open Go Go.AH
set_option maxRecDepth 10000
set_option maxHeartbeats 4000000

def negI (A : List Int) : Bool := A.any fun x => decide (x < 0)
def fallK (r : Rul) (A : List Int) (n k : Nat) : Bool := ((succF r n).take k).all fun t => decide (A.getD t 0 < A.getD n 0)
theorem r_IsRank (r : Rul) (hr : r.ok) (A : List Int) (hA : A.length ≤ 1000000) : Pure Try.prog 34 [r.av, listI A] (.bool (isRankF r A)) := by
  refine pure_of (acalls_of Try.func34 rfl Try.call34 (by kernel_rfl) (by show _ ≤ (63 : Nat); simp) ?_)
  have q1 := hr.m2; have q2 := hr.m6; have q3 := hr.c2; have q4 := hr.c6; have q5 := hr.sz
  have cc := r_Check r hr
  have cs := r_Size r.m r.c q1 q2 q3 q4 q5
  have hsp : 0 < r.size := pw_pos (by omega) _
  have hav : r.av = .agg [.int .i64 r.m, .int .i64 r.c, rowsA r.next] := rfl
  have hSz : (pw r.c r.m : Nat) = r.size := rfl
  rw [hSz] at cs
  rw [hav] at cc ⊢
  simp
  intro b2 hb2
  simp
  refine cc.use ?_
  simp [-lenA, lenA_list]
  refine cs.use ?_
  simp
  by_cases hlen : A.length = r.size
  · have hne : ¬ A = [] := fun e => by rw [e] at hlen; simp at hlen; omega
    have hlenI : (A.length : Int) = (r.size : Int) := by omega
    have hF0 : isRankF r A = (!negI A && fallOn r A r.size) := by simp [isRankF, hlen, negI]
    simp [hlen, listI_ne hne, intsA]
    refine awp_loop_g (γ := Nat) (fun i t h => (i ≤ r.size) ∧ (negI (A.take i) = false) ∧ t 1 = .sl r.size (A.map (.int .i64)) ∧ t 2 = .ptr b2 0 ∧ t 5 = .int .i64 i ∧ h = AHeap.empty.upd b2 (.cells [.int .i64 r.m, .int .i64 r.c, rowsA r.next])) (fun i => r.size - i) (0) (turnA_self (by simp [negI])) ?_
    rintro i t h ⟨hi, hal, h1, h2, h5, rfl⟩
    by_cases hlt : i < r.size
    · have hwi : IntKind.i64.wrap ((i : Int) + 1) = (i : Int) + 1 := wrap_i64 (by omega) (by omega)
      have hiA : i < A.length := by omega
      simp [h1, h2, h5, hlt, hlen]
      refine condA_dec (fun e => ?_) fun e => ?_
      · have : negI A = true := any_of_get hiA (by simpa using e)
        simp [h1, h2, h5]
        exact finA_drop (by rw [hF0, this]; rfl)
      · have hz : negI (A.take (i + 1)) = false := by
          unfold negI at hal ⊢
          rw [any_take_succ hiA, hal]; simpa using e
        simp [h1, h2, h5]
        exact turnA_self ⟨i + 1, by omega, by omega, hz, by simp [h1, h2, h5, hwi]⟩
    · have hie : i = r.size := by omega
      rw [hie, ← hlen, List.take_length] at hal
      have hF : isRankF r A = fallOn r A r.size := by rw [hF0, hal]; rfl
      simp [h1, h2, h5, hlt]
      refine awp_loop_g (γ := Nat) (fun n t h => (n ≤ r.size) ∧ (fallOn r A n = true) ∧ t 1 = .sl r.size (A.map (.int .i64)) ∧ t 2 = .ptr b2 0 ∧ t 6 = .int .i64 n ∧ h = AHeap.empty.upd b2 (.cells [.int .i64 r.m, .int .i64 r.c, rowsA r.next])) (fun n => r.size - n) (0) (turnA_self (by simp [h1, h2, h5, fallOn])) ?_
      rintro n t h ⟨hn, haf, h1, h2, h6, rfl⟩
      by_cases hlt : n < r.size
      · have hwi : IntKind.i64.wrap ((n : Int) + 1) = (n : Int) + 1 := wrap_i64 (by omega) (by omega)
        have hsucc := fallOn_succ r A n
        rw [haf, Bool.true_and] at hsucc
        have cg := r_IsGood r hr n hlt
        have cx := r_Next r hr n hlt false
        rw [hav] at cg cx
        simp [h1, h2, h6, hlt, hlen]
        refine cg.use ?_
        cases hg : goodF r n with
        | true =>
          simp [h1, h2, h6]
          exact turnA_self ⟨n + 1, by omega, by omega, by rw [hsucc, hg]; rfl, by simp [h1, h2, h6, hwi]⟩
        | false =>
          have hcut := fun q => fallOn_cut (r := r) (A := A) hlt hg q
          rw [hg, Bool.false_or] at hsucc
          simp [h1, h2, h6]
          refine cx.use ?_
          have hmv : moveL r n false = succF r n := rfl
          rw [hmv]
          obtain ⟨L, hL⟩ : ∃ L, L = succF r n := ⟨_, rfl⟩
          have hlL : L.length ≤ 6 := by rw [hL]; simp [succF]; have := readyF_len0 r (ofF r.c r.m n); omega
          have hlt' : ∀ t ∈ L, t < r.size := by rw [hL]; exact succF_lt hr n
          have hfk : ∀ k, fallK r A n k = (L.take k).all fun t => decide (A.getD t 0 < A.getD n 0) := by intro k; rw [hL]; rfl
          have hff : fallF r A n = L.all fun t => decide (A.getD t 0 < A.getD n 0) := by rw [hL]; rfl
          rw [← hL]
          simp [h1, h2, h6]
          refine awp_loop_g (γ := Nat) (fun k t h => (k ≤ L.length) ∧ (fallK r A n k = true) ∧ t 1 = .sl r.size (A.map (.int .i64)) ∧ t 2 = .ptr b2 0 ∧ t 6 = .int .i64 n ∧ t 7 = listA L ∧ t 8 = .int .i64 k ∧ h = AHeap.empty.upd b2 (.cells [.int .i64 r.m, .int .i64 r.c, rowsA r.next])) (fun k => L.length - k) (0) (turnA_self (by simp [h1, h2, h6, fallK])) ?_
          rintro k t h ⟨hk, hkf, h1, h2, h6, h7, h8, rfl⟩
          by_cases hkl : k < L.length
          · have hwk : IntKind.i64.wrap ((k : Int) + 1) = (k : Int) + 1 := wrap_i64 (by omega) (by omega)
            have hLn : ¬ L = [] := fun e => by rw [e] at hkl; simp at hkl
            have hla : listA L = .sl L.length (L.map fun x : Nat => AV.int .i64 (x : Int)) := by unfold listA; rw [if_neg hLn]; rfl
            obtain ⟨t0, ht0⟩ : ∃ t0, t0 = L[k] := ⟨_, rfl⟩
            have ht0' : L[k]'hkl = t0 := ht0.symm
            have ht0s : t0 < r.size := hlt' t0 (by rw [ht0]; exact List.getElem_mem hkl)
            have gA : A.getD t0 0 = A[t0]'(by omega) := by simp [hlen, ht0s]
            have gN : A.getD n 0 = A[n]'(by omega) := by simp [hlen, hlt]
            have hks : fallK r A n (k + 1) = decide (A[t0]'(by omega) < A[n]'(by omega)) := by
              rw [hfk, List.take_succ_eq_append_getElem hkl, List.all_append, ← hfk, hkf, ht0']
              simp only [List.all_cons, List.all_nil, gA, gN, Bool.true_and, Bool.and_true]
            simp [h1, h2, h6, h7, h8, hla, hkl]
            refine awp_draw_text (by kernel_rfl) [] [] (by kernel_rfl) (by kernel_rfl) (by simp) ?_
            simp [h1, h2, h6, h7, h8, hla, ht0', hkl, ht0s, hlen, hlt]
            refine condA_dec (fun e => ?_) fun e => ?_
            · have hz : fallF r A n = false := by
                rw [hff, List.all_eq_false]
                exact ⟨t0, by rw [ht0]; exact List.getElem_mem hkl, by rw [gA, gN]; simpa using e⟩
              simp [h1, h2, h6, h7, h8]
              exact finA_drop (by rw [hF, hcut hz])
            · simp [h1, h2, h6, h7, h8]
              exact turnA_self ⟨k + 1, by omega, by omega, by rw [hks]; simpa using e, by simp [h1, h2, h6, h7, h8, hwk, hla]⟩
          · have hke : k = L.length := by omega
            simp [h1, h2, h6, h7, h8, -lenA, lenA_listA, hkl]
            rw [hfk, hke, List.take_length, ← hff] at hkf
            exact turnA_self ⟨n + 1, by omega, by omega, by rw [hsucc, hkf], by simp [h1, h2, h6, h7, h8, hwi]⟩
      · have hne : n = r.size := by omega
        simp [h1, h2, h6, hlt, hlen]
        rw [hne] at haf
        refine finA_drop ?_
        rw [hF, haf]
  · have hF : isRankF r A = false := by simp [isRankF, hlen]
    have hlenI : ¬ (A.length : Int) = (r.size : Int) := by omega
    simp [hlen, hlenI]
    exact finA_drop (by rw [hF])
def okOn (r : Rul) (B : List Int) (n : Nat) : Bool := (List.range n).all (okAt r B)
def nextOn (r : Rul) (B : List Int) (joint : Bool) (n : Nat) : Bool := (List.range n).all (nextAt r B joint)
theorem okOn_succ (r : Rul) (B : List Int) (n : Nat) : okOn r B (n + 1) = (okOn r B n && okAt r B n) := by
  unfold okOn
  rw [List.range_succ, List.all_append]; simp
theorem nextOn_succ (r : Rul) (B : List Int) (joint : Bool) (n : Nat) : nextOn r B joint (n + 1) = (nextOn r B joint n && nextAt r B joint n) := by
  unfold nextOn
  rw [List.range_succ, List.all_append]; simp
theorem all_and {α : Type} (p q : α → Bool) : ∀ l : List α, (l.all fun x => p x && q x) = (l.all p && l.all q)
  | [] => rfl
  | a :: l => by
    simp only [List.all_cons, all_and p q l]
    cases p a <;> cases q a <;> simp
theorem isRoundF_eq (r : Rul) (B : List Int) (joint : Bool) : isRoundF r B joint = (decide (2 ≤ B.length) && (okOn r B B.length && nextOn r B joint B.length)) := by
  unfold isRoundF okOn nextOn
  rw [all_and]
theorem r_IsRound (r : Rul) (hr : r.ok) (B : List Int) (hB : B.length ≤ 1000000) (joint : Bool) : Pure Try.prog 36 [r.av, listI B, .bool joint] (.bool (isRoundF r B joint)) := by
  refine pure_of (acalls_of Try.func36 rfl Try.call36 (by kernel_rfl) (by show _ ≤ (81 : Nat); simp) ?_)
  have q1 := hr.m2; have q2 := hr.m6; have q3 := hr.c2; have q4 := hr.c6; have q5 := hr.sz
  have cc := r_Check r hr
  have cs := r_Size r.m r.c q1 q2 q3 q4 q5
  have hav : r.av = .agg [.int .i64 r.m, .int .i64 r.c, rowsA r.next] := rfl
  have hSz : (pw r.c r.m : Nat) = r.size := rfl
  have hF0 := isRoundF_eq r B joint
  rw [hSz] at cs
  rw [hav] at cc ⊢
  simp
  intro b3 hb3
  simp
  refine cc.use ?_
  simp [-lenA, lenA_list]
  by_cases hlen : 2 ≤ B.length
  · have hne : ¬ B = [] := fun e => by rw [e] at hlen; simp at hlen
    have hl2 : ¬ (B.length : Int) < 2 := by omega
    have hl2n : ¬ B.length < 2 := by omega
    simp [hl2, hl2n, listI_ne hne, intsA]
    refine awp_loop_g (γ := Nat) (fun i t h => (i ≤ B.length) ∧ (okOn r B i = true) ∧ t 1 = .sl B.length (B.map (.int .i64)) ∧ t 2 = .bool joint ∧ t 3 = .ptr b3 0 ∧ t 7 = .int .i64 i ∧ h = AHeap.empty.upd b3 (.cells [.int .i64 r.m, .int .i64 r.c, rowsA r.next])) (fun i => B.length - i) (0) (turnA_self (by simp [okOn])) ?_
    rintro i t h ⟨hi, hal, h1, h2, h3, h7, rfl⟩
    by_cases hlt : i < B.length
    · have hwi : IntKind.i64.wrap ((i : Int) + 1) = (i : Int) + 1 := wrap_i64 (by omega) (by omega)
      obtain ⟨x, hx⟩ : ∃ x, x = B[i] := ⟨_, rfl⟩
      have hx' : B[i]'hlt = x := hx.symm
      have hxg : B.getD i 0 = x := by rw [hx]; simp [hlt]
      have hcut : okAt r B i = false → isRoundF r B joint = false := by
        intro e
        rw [hF0, show okOn r B B.length = false from by unfold okOn; rw [List.all_eq_false]; exact ⟨i, List.mem_range.2 hlt, by rw [e]; simp⟩]
        simp
      have hsucc := okOn_succ r B i
      rw [hal, Bool.true_and] at hsucc
      simp only [okAt, hxg] at hcut hsucc
      by_cases x0 : x < 0
      · have hF := hcut (by simp [show ¬ 0 ≤ x from by omega])
        simp [h1, h2, h3, h7, hlt]
        refine awp_draw_long (by kernel_rfl) [37, 48, 56] [] (by kernel_rfl) (by kernel_rfl) (by simp) ?_
        simp [h1, h2, h3, h7, hlt, hx', x0]
        exact finA_drop (by rw [hF])
      · by_cases x1 : (r.size : Int) ≤ x
        · have hF := hcut (by simp [show ¬ x < r.size from by omega])
          simp [h1, h2, h3, h7, hlt]
          refine awp_draw_long (by kernel_rfl) [37, 48, 56] [(.fn (.func 27) [] [], [.int .i64 r.m, .int .i64 r.c], .int .i64 (r.size : Nat))] (by kernel_rfl) (by kernel_rfl) (by simp; exact PureV.of cs) ?_
          simp [h1, h2, h3, h7, hlt, hx', x0, x1, gamGet_here]
          exact finA_drop (by rw [hF])
        · obtain ⟨n, rfl⟩ : ∃ n : Nat, x = (n : Int) := ⟨x.toNat, by omega⟩
          have hn : n < r.size := by omega
          have x1' : ¬ r.size ≤ n := by omega
          have n0 : ¬ (n : Int) < 0 := by omega
          rw [show (n : Int).toNat = n from by omega] at hcut hsucc
          have hti : intsA (B.take i) = .sl i ((B.take i).map (.int .i64)) := by
            unfold intsA
            rw [show (B.take i).length = i from by simp; omega]
          have ch := r_hasV (B.take i) (by simp; omega) n _ (.inr rfl)
          have hgd := r_IsGood r hr n hn
          rw [hav] at hgd
          rw [hti] at ch
          obtain ⟨hv, hhv⟩ : ∃ hv, hv = hasF (B.take i) n := ⟨_, rfl⟩
          obtain ⟨gv, hgv⟩ : ∃ gv, gv = goodF r n := ⟨_, rfl⟩
          rw [← hhv, List.map_take] at ch
          rw [← hhv] at hcut hsucc
          rw [← hgv] at hgd hcut hsucc
          simp [h1, h2, h3, h7, hlt]
          refine awp_draw_long (by kernel_rfl) [37, 48, 56] [(.fn (.func 27) [] [], [.int .i64 r.m, .int .i64 r.c], .int .i64 (r.size : Nat)),
            (.fn (.func 70) [] [], [.sl i ((B.map (.int .i64)).take i), .int .i64 n], .bool hv), (.fn (.func 41) [] [], [.agg [.int .i64 r.m, .int .i64 r.c, rowsA r.next], .int .i64 n], .bool gv)] (by kernel_rfl) (by kernel_rfl) (by simp; exact ⟨PureV.of cs, PureV.of ch, PureV.of hgd⟩) ?_
          have hii : (i : Int) ≤ (B.length : Int) := by omega
          have hmt : (B.map (AV.int .i64)).take i = (B.take i).map (.int .i64) := by simp
          simp [h1, h2, h3, h7, hlt, hx', n0, x1', hi, hii, gamGet_here, gamGet_cons]
          cases hv with
          | true =>
            have hF := hcut (by simp)
            simp [h1, h2, h3, h7]
            exact finA_drop (by rw [hF])
          | false =>
            simp [h1, h2, h3, h7, hlt, hx', gamGet_cons]
            cases gv with
            | true =>
              have hF := hcut (by simp)
              simp [h1, h2, h3, h7]
              exact finA_drop (by rw [hF])
            | false =>
              simp [h1, h2, h3, h7]
              exact turnA_self ⟨i + 1, by omega, by omega, by rw [hsucc]; simp; omega, by simp [h1, h2, h3, h7, hwi]⟩
    · have hie : i = B.length := by omega
      rw [hie] at hal
      simp [h1, h2, h3, h7, hlt]
      refine awp_loop_g (γ := Nat) (fun j t h => (j ≤ B.length) ∧ (nextOn r B joint j = true) ∧ t 1 = .sl B.length (B.map (.int .i64)) ∧ t 2 = .bool joint ∧ t 3 = .ptr b3 0 ∧ t 8 = .int .i64 j ∧ h = AHeap.empty.upd b3 (.cells [.int .i64 r.m, .int .i64 r.c, rowsA r.next])) (fun j => B.length - j) (0) (turnA_self (by simp [h1, h2, h3, h7, nextOn])) ?_
      rintro j t h ⟨hi, haf, h1, h2, h3, h8, rfl⟩
      have hF1 : isRoundF r B joint = nextOn r B joint B.length := by rw [hF0, hal]; simp [hlen]
      by_cases hlt : j < B.length
      · have hwi : IntKind.i64.wrap ((j : Int) + 1) = (j : Int) + 1 := wrap_i64 (by omega) (by omega)
        obtain ⟨x, hx⟩ : ∃ x, x = B[j] := ⟨_, rfl⟩
        have hx' : B[j]'hlt = x := hx.symm
        have hxg : B.getD j 0 = x := by rw [hx]; simp [hlt]
        have hcut : nextAt r B joint j = false → isRoundF r B joint = false := by
          intro e
          rw [hF1]; unfold nextOn; rw [List.all_eq_false]; exact ⟨j, List.mem_range.2 hlt, by rw [e]; simp⟩
        have hsucc := nextOn_succ r B joint j
        rw [haf, Bool.true_and] at hsucc
        have hok : okAt r B j = true := by
          unfold okOn at hal
          exact List.all_eq_true.1 hal j (List.mem_range.2 hlt)
        simp only [okAt, hxg, Bool.and_eq_true, decide_eq_true_eq] at hok
        obtain ⟨n, rfl⟩ : ∃ n : Nat, x = (n : Int) := ⟨x.toNat, by omega⟩
        have hn : n < r.size := by omega
        obtain ⟨k, hk⟩ : ∃ k, k = (j + 1) % B.length := ⟨_, rfl⟩
        have hkl : k < B.length := by rw [hk]; exact Nat.mod_lt _ (by omega)
        have vm : ((j : Int) + 1).tmod (B.length : Int) = (k : Int) := by rw [Int.tmod_eq_emod_of_nonneg (by omega), hk]; rfl
        have hkg : B.getD k 0 = B[k] := by simp [hkl]
        simp only [nextAt, hxg] at hcut hsucc
        rw [← hk, hkg, show (n : Int).toNat = n from by omega] at hcut hsucc
        obtain ⟨y, hy⟩ : ∃ y, y = B[k] := ⟨_, rfl⟩
        have hy' : B[k]'hkl = y := hy.symm
        rw [hy'] at hcut hsucc
        have hml := moveL_len r hr n joint
        have cx := r_Next r hr n hn joint
        have ct := r_has (moveI r n joint) (by simp [moveI]; omega) y
        have hla : listI (moveI r n joint) = listA (moveL r n joint) := (listA_I _).symm
        rw [hla] at ct
        rw [hav] at cx
        obtain ⟨cv, hcv⟩ : ∃ cv, cv = hasF (moveI r n joint) y := ⟨_, rfl⟩
        rw [← hcv] at ct hcut hsucc
        simp [h1, h2, h3, h8, hlt]
        refine awp_draw_long (by kernel_rfl) [70, 79] [(.fn (.func 38) [] [], [.agg [.int .i64 r.m, .int .i64 r.c, rowsA r.next], .int .i64 n, .bool joint], listA (moveL r n joint)),
          (.fn (.func 70) [] [], [listA (moveL r n joint), .int .i64 y], .bool cv)] (by kernel_rfl) (by kernel_rfl) (by simp; exact ⟨PureV.of cx, PureV.of ct⟩) ?_
        simp [h1, h2, h3, h8, hlt, hx', hwi, vm, hkl, hy', hne, gamGet_here, gamGet_cons]
        cases cv with
        | true =>
          simp [h1, h2, h3, h8]
          exact turnA_self ⟨j + 1, by omega, by omega, hsucc, by simp [h1, h2, h3, h8, hwi]⟩
        | false =>
          have hF := hcut rfl
          simp [h1, h2, h3, h8]
          exact finA_drop (by rw [hF])
      · have hje : j = B.length := by omega
        rw [hje] at haf
        simp [h1, h2, h3, h8, hlt]
        exact finA_drop (by rw [hF1, haf])
  · have hl2 : (B.length : Int) < 2 := by omega
    simp [hl2]
    refine finA_drop ?_
    rw [hF0]; simp [hlen]
end Go.Proofs
