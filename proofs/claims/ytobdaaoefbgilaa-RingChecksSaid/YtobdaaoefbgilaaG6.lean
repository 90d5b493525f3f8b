/-
  Texts: RgK4 RgK5 RgK6.
-/
import Derived.Test.YtobdaaoefbgilaaG5
import Derived.Test.YtobdaaoefbgilaaAhDm
set_option linter.unusedSimpArgs false
set_option linter.unusedVariables false
set_option linter.unusedSectionVars false
section
/-
  Ring: the reference's IsRank and IsRound.
-/
namespace Go.Proofs
open Go Go.AH
set_option maxRecDepth 10000
set_option maxHeartbeats 4000000

def negI (A : List Int) : Bool := A.any fun x => decide (x < 0)
def fallK (r : Rul) (A : List Int) (n k : Nat) : Bool := ((succF r n).take k).all fun t => decide (A.getD t 0 < A.getD n 0)
theorem r_IsRank (r : Rul) (hr : r.ok) (A : List Int) (hA : A.length ≤ 1000000) : Pure Try.prog 34 [r.av, listI A] (.bool (isRankF r A)) := by
  refine pure_of (acalls_of Try.func34 rfl Try.call34 (by kernel_rfl) (by show _ ≤ (63 : Nat); simp) ?_)
  have q1 := hr.m2; have q2 := hr.m6; have q3 := hr.c2; have q4 := hr.c6; have q5 := hr.sz
  have cc := r_Check r hr
  have cs := r_Size r.m r.c q1 q2 q3 q4 q5
  have hsp : 0 < r.size := pw_pos (by omega) _
  have hav : r.av = .agg [.int .i64 r.m, .int .i64 r.c, rowsA r.next] := rfl
  have hSz : (pw r.c r.m : Nat) = r.size := rfl
  rw [hSz] at cs
  rw [hav] at cc ⊢
  simp
  intro b2 hb2
  simp
  refine cc.use ?_
  simp [-lenA, lenA_list]
  refine cs.use ?_
  simp
  by_cases hlen : A.length = r.size
  · have hne : ¬ A = [] := fun e => by rw [e] at hlen; simp at hlen; omega
    have hlenI : (A.length : Int) = (r.size : Int) := by omega
    have hF0 : isRankF r A = (!negI A && fallOn r A r.size) := by simp [isRankF, hlen, negI]
    simp [hlen, listI_ne hne, intsA]
    refine awp_loop_g (γ := Nat) (fun i t h => (i ≤ r.size) ∧ (negI (A.take i) = false) ∧ t 1 = .sl r.size (A.map (.int .i64)) ∧ t 2 = .ptr b2 0 ∧ t 5 = .int .i64 i ∧ h = AHeap.empty.upd b2 (.cells [.int .i64 r.m, .int .i64 r.c, rowsA r.next])) (fun i => r.size - i) (0) (turnA_self (by simp [negI])) ?_
    rintro i t h ⟨hi, hal, h1, h2, h5, rfl⟩
    by_cases hlt : i < r.size
    · have hwi : IntKind.i64.wrap ((i : Int) + 1) = (i : Int) + 1 := wrap_i64 (by omega) (by omega)
      have hiA : i < A.length := by omega
      simp [h1, h2, h5, hlt, hlen]
      refine condA_dec (fun e => ?_) fun e => ?_
      · have : negI A = true := any_of_get hiA (by simpa using e)
        simp [h1, h2, h5]
        exact finA_drop (by rw [hF0, this]; rfl)
      · have hz : negI (A.take (i + 1)) = false := by
          unfold negI at hal ⊢
          rw [any_take_succ hiA, hal]; simpa using e
        simp [h1, h2, h5]
        exact turnA_self ⟨i + 1, by omega, by omega, hz, by simp [h1, h2, h5, hwi]⟩
    · have hie : i = r.size := by omega
      rw [hie, ← hlen, List.take_length] at hal
      have hF : isRankF r A = fallOn r A r.size := by rw [hF0, hal]; rfl
      simp [h1, h2, h5, hlt]
      refine awp_loop_g (γ := Nat) (fun n t h => (n ≤ r.size) ∧ (fallOn r A n = true) ∧ t 1 = .sl r.size (A.map (.int .i64)) ∧ t 2 = .ptr b2 0 ∧ t 6 = .int .i64 n ∧ h = AHeap.empty.upd b2 (.cells [.int .i64 r.m, .int .i64 r.c, rowsA r.next])) (fun n => r.size - n) (0) (turnA_self (by simp [h1, h2, h5, fallOn])) ?_
      rintro n t h ⟨hn, haf, h1, h2, h6, rfl⟩
      by_cases hlt : n < r.size
      · have hwi : IntKind.i64.wrap ((n : Int) + 1) = (n : Int) + 1 := wrap_i64 (by omega) (by omega)
        have hsucc := fallOn_succ r A n
        rw [haf, Bool.true_and] at hsucc
        have cg := r_IsGood r hr n hlt
        have cx := r_Next r hr n hlt false
        rw [hav] at cg cx
        simp [h1, h2, h6, hlt, hlen]
        refine cg.use ?_
        cases hg : goodF r n with
        | true =>
          simp [h1, h2, h6]
          exact turnA_self ⟨n + 1, by omega, by omega, by rw [hsucc, hg]; rfl, by simp [h1, h2, h6, hwi]⟩
        | false =>
          have hcut := fun q => fallOn_cut (r := r) (A := A) hlt hg q
          rw [hg, Bool.false_or] at hsucc
          simp [h1, h2, h6]
          refine cx.use ?_
          have hmv : moveL r n false = succF r n := rfl
          rw [hmv]
          obtain ⟨L, hL⟩ : ∃ L, L = succF r n := ⟨_, rfl⟩
          have hlL : L.length ≤ 6 := by rw [hL]; simp [succF]; have := readyF_len0 r (ofF r.c r.m n); omega
          have hlt' : ∀ t ∈ L, t < r.size := by rw [hL]; exact succF_lt hr n
          have hfk : ∀ k, fallK r A n k = (L.take k).all fun t => decide (A.getD t 0 < A.getD n 0) := by intro k; rw [hL]; rfl
          have hff : fallF r A n = L.all fun t => decide (A.getD t 0 < A.getD n 0) := by rw [hL]; rfl
          rw [← hL]
          simp [h1, h2, h6]
          refine awp_loop_g (γ := Nat) (fun k t h => (k ≤ L.length) ∧ (fallK r A n k = true) ∧ t 1 = .sl r.size (A.map (.int .i64)) ∧ t 2 = .ptr b2 0 ∧ t 6 = .int .i64 n ∧ t 7 = listA L ∧ t 8 = .int .i64 k ∧ h = AHeap.empty.upd b2 (.cells [.int .i64 r.m, .int .i64 r.c, rowsA r.next])) (fun k => L.length - k) (0) (turnA_self (by simp [h1, h2, h6, fallK])) ?_
          rintro k t h ⟨hk, hkf, h1, h2, h6, h7, h8, rfl⟩
          by_cases hkl : k < L.length
          · have hwk : IntKind.i64.wrap ((k : Int) + 1) = (k : Int) + 1 := wrap_i64 (by omega) (by omega)
            have hLn : ¬ L = [] := fun e => by rw [e] at hkl; simp at hkl
            have hla : listA L = .sl L.length (L.map fun x : Nat => AV.int .i64 (x : Int)) := by unfold listA; rw [if_neg hLn]; rfl
            obtain ⟨t0, ht0⟩ : ∃ t0, t0 = L[k] := ⟨_, rfl⟩
            have ht0' : L[k]'hkl = t0 := ht0.symm
            have ht0s : t0 < r.size := hlt' t0 (by rw [ht0]; exact List.getElem_mem hkl)
            have gA : A.getD t0 0 = A[t0]'(by omega) := by simp [hlen, ht0s]
            have gN : A.getD n 0 = A[n]'(by omega) := by simp [hlen, hlt]
            have hks : fallK r A n (k + 1) = decide (A[t0]'(by omega) < A[n]'(by omega)) := by
              rw [hfk, List.take_succ_eq_append_getElem hkl, List.all_append, ← hfk, hkf, ht0']
              simp only [List.all_cons, List.all_nil, gA, gN, Bool.true_and, Bool.and_true]
            simp [h1, h2, h6, h7, h8, hla, hkl]
            refine awp_draw_text (by kernel_rfl) [] [] (by kernel_rfl) (by kernel_rfl) (by simp) ?_
            simp [h1, h2, h6, h7, h8, hla, ht0', hkl, ht0s, hlen, hlt]
            refine condA_dec (fun e => ?_) fun e => ?_
            · have hz : fallF r A n = false := by
                rw [hff, List.all_eq_false]
                exact ⟨t0, by rw [ht0]; exact List.getElem_mem hkl, by rw [gA, gN]; simpa using e⟩
              simp [h1, h2, h6, h7, h8]
              exact finA_drop (by rw [hF, hcut hz])
            · simp [h1, h2, h6, h7, h8]
              exact turnA_self ⟨k + 1, by omega, by omega, by rw [hks]; simpa using e, by simp [h1, h2, h6, h7, h8, hwk, hla]⟩
          · have hke : k = L.length := by omega
            simp [h1, h2, h6, h7, h8, -lenA, lenA_listA, hkl]
            rw [hfk, hke, List.take_length, ← hff] at hkf
            exact turnA_self ⟨n + 1, by omega, by omega, by rw [hsucc, hkf], by simp [h1, h2, h6, h7, h8, hwi]⟩
      · have hne : n = r.size := by omega
        simp [h1, h2, h6, hlt, hlen]
        rw [hne] at haf
        refine finA_drop ?_
        rw [hF, haf]
  · have hF : isRankF r A = false := by simp [isRankF, hlen]
    have hlenI : ¬ (A.length : Int) = (r.size : Int) := by omega
    simp [hlen, hlenI]
    exact finA_drop (by rw [hF])
def okOn (r : Rul) (B : List Int) (n : Nat) : Bool := (List.range n).all (okAt r B)
def nextOn (r : Rul) (B : List Int) (joint : Bool) (n : Nat) : Bool := (List.range n).all (nextAt r B joint)
theorem okOn_succ (r : Rul) (B : List Int) (n : Nat) : okOn r B (n + 1) = (okOn r B n && okAt r B n) := by
  unfold okOn
  rw [List.range_succ, List.all_append]; simp
theorem nextOn_succ (r : Rul) (B : List Int) (joint : Bool) (n : Nat) : nextOn r B joint (n + 1) = (nextOn r B joint n && nextAt r B joint n) := by
  unfold nextOn
  rw [List.range_succ, List.all_append]; simp
theorem all_and {α : Type} (p q : α → Bool) : ∀ l : List α, (l.all fun x => p x && q x) = (l.all p && l.all q)
  | [] => rfl
  | a :: l => by
    simp only [List.all_cons, all_and p q l]
    cases p a <;> cases q a <;> simp
theorem isRoundF_eq (r : Rul) (B : List Int) (joint : Bool) : isRoundF r B joint = (decide (2 ≤ B.length) && (okOn r B B.length && nextOn r B joint B.length)) := by
  unfold isRoundF okOn nextOn
  rw [all_and]
theorem r_IsRound (r : Rul) (hr : r.ok) (B : List Int) (hB : B.length ≤ 1000000) (joint : Bool) : Pure Try.prog 36 [r.av, listI B, .bool joint] (.bool (isRoundF r B joint)) := by
  refine pure_of (acalls_of Try.func36 rfl Try.call36 (by kernel_rfl) (by show _ ≤ (81 : Nat); simp) ?_)
  have q1 := hr.m2; have q2 := hr.m6; have q3 := hr.c2; have q4 := hr.c6; have q5 := hr.sz
  have cc := r_Check r hr
  have cs := r_Size r.m r.c q1 q2 q3 q4 q5
  have hav : r.av = .agg [.int .i64 r.m, .int .i64 r.c, rowsA r.next] := rfl
  have hSz : (pw r.c r.m : Nat) = r.size := rfl
  have hF0 := isRoundF_eq r B joint
  rw [hSz] at cs
  rw [hav] at cc ⊢
  simp
  intro b3 hb3
  simp
  refine cc.use ?_
  simp [-lenA, lenA_list]
  by_cases hlen : 2 ≤ B.length
  · have hne : ¬ B = [] := fun e => by rw [e] at hlen; simp at hlen
    have hl2 : ¬ (B.length : Int) < 2 := by omega
    have hl2n : ¬ B.length < 2 := by omega
    simp [hl2, hl2n, listI_ne hne, intsA]
    refine awp_loop_g (γ := Nat) (fun i t h => (i ≤ B.length) ∧ (okOn r B i = true) ∧ t 1 = .sl B.length (B.map (.int .i64)) ∧ t 2 = .bool joint ∧ t 3 = .ptr b3 0 ∧ t 7 = .int .i64 i ∧ h = AHeap.empty.upd b3 (.cells [.int .i64 r.m, .int .i64 r.c, rowsA r.next])) (fun i => B.length - i) (0) (turnA_self (by simp [okOn])) ?_
    rintro i t h ⟨hi, hal, h1, h2, h3, h7, rfl⟩
    by_cases hlt : i < B.length
    · have hwi : IntKind.i64.wrap ((i : Int) + 1) = (i : Int) + 1 := wrap_i64 (by omega) (by omega)
      obtain ⟨x, hx⟩ : ∃ x, x = B[i] := ⟨_, rfl⟩
      have hx' : B[i]'hlt = x := hx.symm
      have hxg : B.getD i 0 = x := by rw [hx]; simp [hlt]
      have hcut : okAt r B i = false → isRoundF r B joint = false := by
        intro e
        rw [hF0, show okOn r B B.length = false from by unfold okOn; rw [List.all_eq_false]; exact ⟨i, List.mem_range.2 hlt, by rw [e]; simp⟩]
        simp
      have hsucc := okOn_succ r B i
      rw [hal, Bool.true_and] at hsucc
      simp only [okAt, hxg] at hcut hsucc
      by_cases x0 : x < 0
      · have hF := hcut (by simp [show ¬ 0 ≤ x from by omega])
        simp [h1, h2, h3, h7, hlt]
        refine awp_draw_long (by kernel_rfl) [37, 48, 56] [] (by kernel_rfl) (by kernel_rfl) (by simp) ?_
        simp [h1, h2, h3, h7, hlt, hx', x0]
        exact finA_drop (by rw [hF])
      · by_cases x1 : (r.size : Int) ≤ x
        · have hF := hcut (by simp [show ¬ x < r.size from by omega])
          simp [h1, h2, h3, h7, hlt]
          refine awp_draw_long (by kernel_rfl) [37, 48, 56] [(.fn (.func 27) [] [], [.int .i64 r.m, .int .i64 r.c], .int .i64 (r.size : Nat))] (by kernel_rfl) (by kernel_rfl) (by simp; exact PureV.of cs) ?_
          simp [h1, h2, h3, h7, hlt, hx', x0, x1, gamGet_here]
          exact finA_drop (by rw [hF])
        · obtain ⟨n, rfl⟩ : ∃ n : Nat, x = (n : Int) := ⟨x.toNat, by omega⟩
          have hn : n < r.size := by omega
          have x1' : ¬ r.size ≤ n := by omega
          have n0 : ¬ (n : Int) < 0 := by omega
          rw [show (n : Int).toNat = n from by omega] at hcut hsucc
          have hti : intsA (B.take i) = .sl i ((B.take i).map (.int .i64)) := by
            unfold intsA
            rw [show (B.take i).length = i from by simp; omega]
          have ch := r_hasV (B.take i) (by simp; omega) n _ (.inr rfl)
          have hgd := r_IsGood r hr n hn
          rw [hav] at hgd
          rw [hti] at ch
          obtain ⟨hv, hhv⟩ : ∃ hv, hv = hasF (B.take i) n := ⟨_, rfl⟩
          obtain ⟨gv, hgv⟩ : ∃ gv, gv = goodF r n := ⟨_, rfl⟩
          rw [← hhv, List.map_take] at ch
          rw [← hhv] at hcut hsucc
          rw [← hgv] at hgd hcut hsucc
          simp [h1, h2, h3, h7, hlt]
          refine awp_draw_long (by kernel_rfl) [37, 48, 56] [(.fn (.func 27) [] [], [.int .i64 r.m, .int .i64 r.c], .int .i64 (r.size : Nat)),
            (.fn (.func 70) [] [], [.sl i ((B.map (.int .i64)).take i), .int .i64 n], .bool hv), (.fn (.func 41) [] [], [.agg [.int .i64 r.m, .int .i64 r.c, rowsA r.next], .int .i64 n], .bool gv)] (by kernel_rfl) (by kernel_rfl) (by simp; exact ⟨PureV.of cs, PureV.of ch, PureV.of hgd⟩) ?_
          have hii : (i : Int) ≤ (B.length : Int) := by omega
          have hmt : (B.map (AV.int .i64)).take i = (B.take i).map (.int .i64) := by simp
          simp [h1, h2, h3, h7, hlt, hx', n0, x1', hi, hii, gamGet_here, gamGet_cons]
          cases hv with
          | true =>
            have hF := hcut (by simp)
            simp [h1, h2, h3, h7]
            exact finA_drop (by rw [hF])
          | false =>
            simp [h1, h2, h3, h7, hlt, hx', gamGet_cons]
            cases gv with
            | true =>
              have hF := hcut (by simp)
              simp [h1, h2, h3, h7]
              exact finA_drop (by rw [hF])
            | false =>
              simp [h1, h2, h3, h7]
              exact turnA_self ⟨i + 1, by omega, by omega, by rw [hsucc]; simp; omega, by simp [h1, h2, h3, h7, hwi]⟩
    · have hie : i = B.length := by omega
      rw [hie] at hal
      simp [h1, h2, h3, h7, hlt]
      refine awp_loop_g (γ := Nat) (fun j t h => (j ≤ B.length) ∧ (nextOn r B joint j = true) ∧ t 1 = .sl B.length (B.map (.int .i64)) ∧ t 2 = .bool joint ∧ t 3 = .ptr b3 0 ∧ t 8 = .int .i64 j ∧ h = AHeap.empty.upd b3 (.cells [.int .i64 r.m, .int .i64 r.c, rowsA r.next])) (fun j => B.length - j) (0) (turnA_self (by simp [h1, h2, h3, h7, nextOn])) ?_
      rintro j t h ⟨hi, haf, h1, h2, h3, h8, rfl⟩
      have hF1 : isRoundF r B joint = nextOn r B joint B.length := by rw [hF0, hal]; simp [hlen]
      by_cases hlt : j < B.length
      · have hwi : IntKind.i64.wrap ((j : Int) + 1) = (j : Int) + 1 := wrap_i64 (by omega) (by omega)
        obtain ⟨x, hx⟩ : ∃ x, x = B[j] := ⟨_, rfl⟩
        have hx' : B[j]'hlt = x := hx.symm
        have hxg : B.getD j 0 = x := by rw [hx]; simp [hlt]
        have hcut : nextAt r B joint j = false → isRoundF r B joint = false := by
          intro e
          rw [hF1]; unfold nextOn; rw [List.all_eq_false]; exact ⟨j, List.mem_range.2 hlt, by rw [e]; simp⟩
        have hsucc := nextOn_succ r B joint j
        rw [haf, Bool.true_and] at hsucc
        have hok : okAt r B j = true := by
          unfold okOn at hal
          exact List.all_eq_true.1 hal j (List.mem_range.2 hlt)
        simp only [okAt, hxg, Bool.and_eq_true, decide_eq_true_eq] at hok
        obtain ⟨n, rfl⟩ : ∃ n : Nat, x = (n : Int) := ⟨x.toNat, by omega⟩
        have hn : n < r.size := by omega
        obtain ⟨k, hk⟩ : ∃ k, k = (j + 1) % B.length := ⟨_, rfl⟩
        have hkl : k < B.length := by rw [hk]; exact Nat.mod_lt _ (by omega)
        have vm : ((j : Int) + 1).tmod (B.length : Int) = (k : Int) := by rw [Int.tmod_eq_emod_of_nonneg (by omega), hk]; rfl
        have hkg : B.getD k 0 = B[k] := by simp [hkl]
        simp only [nextAt, hxg] at hcut hsucc
        rw [← hk, hkg, show (n : Int).toNat = n from by omega] at hcut hsucc
        obtain ⟨y, hy⟩ : ∃ y, y = B[k] := ⟨_, rfl⟩
        have hy' : B[k]'hkl = y := hy.symm
        rw [hy'] at hcut hsucc
        have hml := moveL_len r hr n joint
        have cx := r_Next r hr n hn joint
        have ct := r_has (moveI r n joint) (by simp [moveI]; omega) y
        have hla : listI (moveI r n joint) = listA (moveL r n joint) := (listA_I _).symm
        rw [hla] at ct
        rw [hav] at cx
        obtain ⟨cv, hcv⟩ : ∃ cv, cv = hasF (moveI r n joint) y := ⟨_, rfl⟩
        rw [← hcv] at ct hcut hsucc
        simp [h1, h2, h3, h8, hlt]
        refine awp_draw_long (by kernel_rfl) [70, 79] [(.fn (.func 38) [] [], [.agg [.int .i64 r.m, .int .i64 r.c, rowsA r.next], .int .i64 n, .bool joint], listA (moveL r n joint)),
          (.fn (.func 70) [] [], [listA (moveL r n joint), .int .i64 y], .bool cv)] (by kernel_rfl) (by kernel_rfl) (by simp; exact ⟨PureV.of cx, PureV.of ct⟩) ?_
        simp [h1, h2, h3, h8, hlt, hx', hwi, vm, hkl, hy', hne, gamGet_here, gamGet_cons]
        cases cv with
        | true =>
          simp [h1, h2, h3, h8]
          exact turnA_self ⟨j + 1, by omega, by omega, hsucc, by simp [h1, h2, h3, h8, hwi]⟩
        | false =>
          have hF := hcut rfl
          simp [h1, h2, h3, h8]
          exact finA_drop (by rw [hF])
      · have hje : j = B.length := by omega
        rw [hje] at haf
        simp [h1, h2, h3, h8, hlt]
        exact finA_drop (by rw [hF1, haf])
  · have hl2 : (B.length : Int) < 2 := by omega
    simp [hl2]
    refine finA_drop ?_
    rw [hF0]; simp [hlen]
end Go.Proofs

end

section
/-
  Ring: plain law: how many steps there can be at most until a configuration is good.
-/
namespace Go.Proofs
open Go Go.AH
set_option maxRecDepth 10000
set_option maxHeartbeats 4000000

theorem nodup_ltN : ∀ (N : Nat) (l : List Nat), l.Nodup → (∀ x ∈ l, x < N) → l.length ≤ N
  | 0, l, _, h => by
    cases l with
    | nil => simp
    | cons x l => exact absurd (h x (by simp)) (by omega)
  | N + 1, l, hn, h => by
    have h1 := nodup_ltN N (l.erase N) (hn.erase N) fun x hx => by
      have h2 := h x (List.mem_of_mem_erase hx)
      have h3 : x ≠ N := fun e => by
        subst e
        exact (List.Nodup.not_mem_erase hn) hx
      omega
    have h4 : l.length ≤ (l.erase N).length + 1 := by
      by_cases hm : N ∈ l
      · rw [List.length_erase_of_mem hm]; omega
      · rw [List.erase_of_not_mem hm]; omega
    omega
theorem pigeonN (N : Nat) (f : Nat → Nat) (hf : ∀ i, i ≤ N → f i < N) : ∃ i j, i < j ∧ j ≤ N ∧ f i = f j := by
  refine Classical.byContradiction fun hno => ?_
  have hn : ((List.range (N + 1)).map f).Nodup := by
    rw [List.nodup_iff_pairwise_ne, List.pairwise_iff_getElem]
    intro i j hi hj hij e
    simp only [List.length_map, List.length_range] at hi hj
    simp only [List.getElem_map, List.getElem_range] at e
    exact hno ⟨i, j, hij, by omega, e⟩
  have := nodup_ltN N _ hn (by
    intro x hx
    obtain ⟨i, hi, rfl⟩ := List.mem_map.1 hx
    exact hf i (by have := List.mem_range.1 hi; omega))
  simp at this
  omega

def maxL (l : List Nat) : Nat := l.foldl max 0
theorem foldl_max : ∀ (l : List Nat) (a : Nat), l.foldl max a = max a (maxL l)
  | [], a => by simp [maxL]
  | x :: l, a => by
    have q1 := foldl_max l (max a x)
    have q2 := foldl_max l (max 0 x)
    show l.foldl max (max a x) = max a (l.foldl max (max 0 x))
    rw [q1, q2]; omega
theorem maxL_cons (x : Nat) (l : List Nat) : maxL (x :: l) = max x (maxL l) := by
  rw [maxL, List.foldl_cons, foldl_max]; omega
theorem maxL_append (l m : List Nat) : maxL (l ++ m) = max (maxL l) (maxL m) := by
  rw [maxL, List.foldl_append, foldl_max]; rfl
theorem maxL_ge {l : List Nat} {x : Nat} (h : x ∈ l) : x ≤ maxL l := by
  induction l with
  | nil => simp at h
  | cons y l ih =>
    rw [maxL_cons]
    rcases List.mem_cons.1 h with rfl | h
    · omega
    · have := ih h; omega
theorem maxL_mem {l : List Nat} (h : 0 < maxL l) : maxL l ∈ l := by
  induction l with
  | nil => simp [maxL] at h
  | cons y l ih =>
    rw [maxL_cons] at h ⊢
    by_cases q : maxL l ≤ y
    · rw [Nat.max_eq_left q]; simp
    · rw [Nat.max_eq_right (by omega)]
      exact List.mem_cons_of_mem _ (ih (by omega))

/-- The steps that there can be at most from n until a configuration is good. -/
inductive Rk (good : Nat → Bool) (nx : Nat → List Nat) : Nat → Nat → Prop
  | good {n : Nat} : good n = true → Rk good nx n 0
  | step {n v : Nat} (f : Nat → Nat) : good n = false → (∀ t ∈ nx n, Rk good nx t (f t)) → v = maxL ((nx n).map fun t => f t + 1) → Rk good nx n v

section
variable {good : Nat → Bool} {nx : Nat → List Nat}
theorem Rk.det {n v : Nat} (a : Rk good nx n v) : ∀ {w}, Rk good nx n w → v = w := by
  induction a with
  | good h =>
    intro w b
    cases b with
    | good _ => rfl
    | step f h2 _ _ => rw [h] at h2; cases h2
  | step f h hs hv ih =>
    intro w b
    cases b with
    | good h2 => rw [h] at h2; cases h2
    | step g _ hs2 hv2 =>
      rw [hv, hv2]
      congr 1
      exact List.map_congr_left fun t ht => by rw [ih t ht (hs2 t ht)]
theorem Rk.upTo {size : Nat} (hc : ∀ n, n < size → ∀ t ∈ nx n, t < size) {n v : Nat} (a : Rk good nx n v) : n < size → ∀ k, k ≤ v → ∃ m, m < size ∧ Rk good nx m k := by
  induction a with
  | @good n h =>
    intro hn k hk
    obtain rfl : k = 0 := by omega
    exact ⟨n, hn, .good h⟩
  | @step n v f h hs hv ih =>
    intro hn k hk
    by_cases e : k = v
    · subst e; exact ⟨n, hn, .step f h hs hv⟩
    · have hp : 0 < maxL ((nx n).map fun t => f t + 1) := by omega
      obtain ⟨t, ht, he⟩ := List.mem_map.1 (maxL_mem hp)
      exact ih t ht (hc n hn t ht) k (by omega)
theorem Rk.lt {size : Nat} (hc : ∀ n, n < size → ∀ t ∈ nx n, t < size) {n v : Nat} (a : Rk good nx n v) (hn : n < size) : v < size := by
  refine Nat.lt_of_not_le fun hv => ?_
  have hb := a.upTo hc hn
  obtain ⟨f, hf⟩ : ∃ f : Nat → Nat, ∀ k, k ≤ size → f k < size ∧ Rk good nx (f k) k := by
    refine ⟨fun k => if h : k ≤ size then Classical.choose (hb k (by omega)) else 0, fun k hk => ?_⟩
    simp only [dif_pos hk]
    exact Classical.choose_spec (hb k (by omega))
  obtain ⟨i, j, hij, hj, e⟩ := pigeonN size f fun i hi => (hf i hi).1
  have h1 := (hf i (by omega)).2
  have h2 := (hf j hj).2
  rw [e] at h1
  have := h1.det h2
  omega
/-- Where one may go on for ever there is no such number. -/
theorem Rk.not {S : Nat → Prop} (hS : ∀ n, S n → good n = false ∧ ∃ t ∈ nx n, S t) {n v : Nat} (a : Rk good nx n v) : ¬ S n := by
  induction a with
  | good h => intro q; have := (hS _ q).1; rw [h] at this; cases this
  | step f h hs hv ih =>
    intro q
    obtain ⟨t, ht, st⟩ := (hS _ q).2
    exact ih t ht st
/-- All have one. -/
def RkAll (good : Nat → Bool) (nx : Nat → List Nat) (size : Nat) (L : List Nat) : Prop := L.length = size ∧ ∀ n, n < size → Rk good nx n (L.getD n 0)
theorem RkAll.det {size : Nat} {L M : List Nat} (a : RkAll good nx size L) (b : RkAll good nx size M) : L = M := by
  refine List.ext_getElem (by rw [a.1, b.1]) fun i h1 h2 => ?_
  have x := (a.2 i (by rw [← a.1]; exact h1)).det (b.2 i (by rw [← a.1]; exact h1))
  simpa [h1, h2] using x
end
end Go.Proofs

end

section
/-
  Ring: the reference's Ranks.
-/
namespace Go.Proofs
open Go Go.AH
set_option maxRecDepth 10000
set_option maxHeartbeats 4000000

def initL (good : Nat → Bool) (size n : Nat) : List Int := (List.range size).map fun i => if i < n then (if good i = true then 0 else -1) else 0
theorem initL_good {good : Nat → Bool} {size n : Nat} (h : good n = true) : ((initL good size n).set n (-1)).set n 0 = initL good size (n + 1) := by
  refine List.ext_getElem (by simp [initL]) fun i h1 h2 => ?_
  simp only [List.getElem_set, initL, List.getElem_map, List.getElem_range]
  by_cases e : n = i
  · subst e; simp [h]
  · by_cases e2 : i < n
    · simp [e, e2, show i < n + 1 from by omega]
    · simp [e, e2, show ¬ i < n + 1 from by omega]
theorem initL_bad {good : Nat → Bool} {size n : Nat} (h : good n = false) : (initL good size n).set n (-1) = initL good size (n + 1) := by
  refine List.ext_getElem (by simp [initL]) fun i h1 h2 => ?_
  simp only [List.getElem_set, initL, List.getElem_map, List.getElem_range]
  by_cases e : n = i
  · subst e; simp [h]
  · by_cases e2 : i < n
    · simp [e, e2, show i < n + 1 from by omega]
    · simp [e, e2, show ¬ i < n + 1 from by omega]
def rowL (good : Nat → Bool) (nx : Nat → List Nat) (size n : Nat) : List AV := (List.range size).map fun i => if i < n ∧ good i = false then listA (nx i) else .nilsl
theorem rowL_good {good : Nat → Bool} {nx : Nat → List Nat} {size n : Nat} (h : good n = true) : rowL good nx size n = rowL good nx size (n + 1) := by
  refine List.map_congr_left fun i _ => ?_
  by_cases e : i = n
  · subst e; simp [h]
  · by_cases e2 : i < n
    · simp [e2, show i < n + 1 from by omega]
    · simp [e2, show ¬ i < n + 1 from by omega]
theorem rowL_bad {good : Nat → Bool} {nx : Nat → List Nat} {size n : Nat} (h : good n = false) : (rowL good nx size n).set n (listA (nx n)) = rowL good nx size (n + 1) := by
  refine List.ext_getElem (by simp [rowL]) fun i h1 h2 => ?_
  simp only [List.getElem_set, rowL, List.getElem_map, List.getElem_range]
  by_cases e : n = i
  · subst e; simp [h]
  · by_cases e2 : i < n
    · simp [e, e2, show i < n + 1 from by omega]
    · simp [e, e2, show ¬ i < n + 1 from by omega]
@[simp] theorem initL_len (good : Nat → Bool) (size n : Nat) : (initL good size n).length = size := by simp [initL]
@[simp] theorem rowL_len (good : Nat → Bool) (nx : Nat → List Nat) (size n : Nat) : (rowL good nx size n).length = size := by simp [rowL]

structure Fits (good : Nat → Bool) (nx : Nat → List Nat) (size : Nat) (ρ : List Int) : Prop where
  len : ρ.length = size
  rk : ∀ n, n < size → 0 ≤ ρ.getD n 0 → Rk good nx n (ρ.getD n 0).toNat
  gd : ∀ n, n < size → good n = true → 0 ≤ ρ.getD n 0
theorem fits_init (good : Nat → Bool) (nx : Nat → List Nat) (size : Nat) : Fits good nx size (initL good size size) := by
  have hg : ∀ n, n < size → (initL good size size).getD n 0 = if good n = true then 0 else -1 := by
    intro n hn
    simp [initL, hn]
  refine ⟨by simp, fun n hn h => ?_, fun n hn h => ?_⟩
  · rw [hg n hn] at h ⊢
    by_cases e : good n = true
    · rw [if_pos e]; exact .good e
    · rw [if_neg e] at h; omega
  · rw [hg n hn, if_pos h]; omega
def negs (ρ : List Int) : Nat := ρ.countP fun x => decide (x < 0)
theorem negs_set {ρ : List Int} {n : Nat} (hn : n < ρ.length) (h : ρ[n] < 0) {v : Int} (hv : 0 ≤ v) : negs (ρ.set n v) + 1 = negs ρ := by
  unfold negs
  rw [List.countP_set hn]
  have hp : 0 < ρ.countP (fun x => decide (x < 0)) := List.countP_pos_iff.2 ⟨ρ[n], List.getElem_mem hn, by simpa using h⟩
  rw [if_pos (by simpa using h), if_neg (by simpa using hv)]
  omega
theorem Fits.set {good : Nat → Bool} {nx : Nat → List Nat} {size : Nat} {ρ : List Int} (F : Fits good nx size ρ) {n v : Nat} (hn : n < size) (hv : Rk good nx n v) : Fits good nx size (ρ.set n (v : Int)) := by
  have hg : ∀ m, m < size → (ρ.set n (v : Int)).getD m 0 = if n = m then (v : Int) else ρ.getD m 0 := by
    intro m hm
    have hl := F.len
    simp only [List.getD_eq_getElem?_getD, List.getElem?_set]
    split
    · next e => subst e; simp [hl, hn]
    · rfl
  refine ⟨by rw [List.length_set, F.len], fun m hm h => ?_, fun m hm h => ?_⟩
  · rw [hg m hm] at h ⊢
    split
    · next e => subst e; exact hv
    · next e => rw [if_neg e] at h; exact F.rk m hm h
  · rw [hg m hm]
    split
    · omega
    · exact F.gd m hm h
structure LR where
  again : Bool
  ρ : List Int
structure LN where
  n : Nat
  again : Bool
  ρ : List Int
structure LK where
  k : Nat
  known : Bool
  most : Int
def posB (ρ : List Int) (n : Nat) : Prop := ∀ m, m < n → 0 ≤ ρ.getD m 0
def Stuck (nx : Nat → List Nat) (ρ : List Int) (n : Nat) : Prop := ∀ m, m < n → ρ.getD m 0 < 0 → ∃ t ∈ nx m, ρ.getD t 0 < 0
theorem moveL_lt {r : Rul} (hr : r.ok) (n : Nat) (joint : Bool) : ∀ t ∈ moveL r n joint, t < r.size := by
  intro t ht
  unfold moveL at ht
  split at ht
  · obtain ⟨s, hs, rfl⟩ := List.mem_map.1 ht
    exact cfg_num hr (step_cfg hr (of_cfg hr n) fun i hi => readyF_ok0 i (pickS_mem i hi))
  · exact succF_lt hr n t ht
def KInv (σ : List Int) (L : List Nat) (k : Nat) (known : Bool) (most : Int) : Prop :=
  (known = true → most = (maxL ((L.take k).map fun t => (σ.getD t 0).toNat + 1) : Nat) ∧ ∀ t ∈ L.take k, 0 ≤ σ.getD t 0) ∧ (known = false → ∃ t ∈ L, σ.getD t 0 < 0)
/-- What the reference's Ranks answers. -/
noncomputable def ranksF (r : Rul) (joint : Bool) : AV := by
  classical exact if h : ∃ L, RkAll (goodF r) (fun n => moveL r n joint) r.size L then .tup [natsA (Classical.choose h), .bool true] else .tup [.nilsl, .bool false]
theorem ranksF_some {r : Rul} {joint : Bool} {L : List Nat} (h : RkAll (goodF r) (fun n => moveL r n joint) r.size L) : ranksF r joint = .tup [natsA L, .bool true] := by
  unfold ranksF
  rw [dif_pos ⟨L, h⟩, (Classical.choose_spec (⟨L, h⟩ : ∃ L, RkAll (goodF r) (fun n => moveL r n joint) r.size L)).det h]
theorem ranksF_none {r : Rul} {joint : Bool} {S : Nat → Prop} (hS : ∀ n, S n → goodF r n = false ∧ ∃ t ∈ moveL r n joint, S t) {n : Nat} (hn : n < r.size) (hs : S n) : ranksF r joint = .tup [.nilsl, .bool false] := by
  unfold ranksF
  rw [dif_neg]
  rintro ⟨L, h⟩
  exact (h.2 n hn).not hS hs

theorem r_Ranks (r : Rul) (hr : r.ok) (joint : Bool) : Pure Try.prog 37 [r.av, .bool joint] (ranksF r joint) := by
  refine pure_of (acalls_of Try.func37 rfl Try.call37 (by kernel_rfl) (by show _ ≤ (109 : Nat); simp) ?_)
  have q1 := hr.m2; have q2 := hr.m6; have q3 := hr.c2; have q4 := hr.c6; have q5 := hr.sz
  have cs := r_Size r.m r.c q1 q2 q3 q4 q5
  have hav : r.av = .agg [.int .i64 r.m, .int .i64 r.c, rowsA r.next] := rfl
  have hSz : (pw r.c r.m : Nat) = r.size := rfl
  rw [hSz] at cs
  rw [hav]
  obtain ⟨S, hS⟩ : ∃ S, S = r.size := ⟨_, rfl⟩
  have hsp : 0 < S := by rw [hS]; exact pw_pos (by omega) _
  have hSi : (S : Int) < 1073741824 := by omega
  have hSn : S < 1073741824 := by omega
  have hSj : (S : Int) < 178956970 := by omega
  have hSm : S < 178956970 := by omega
  rw [← hS] at cs q5
  simp
  intro b2 hb2
  simp
  refine cs.use ?_
  simp [hSi, hSn, hSj, hSm]
  intro bR hbR
  simp at hbR
  simp [hbR, hSi, hSn, hSj, hSm]
  intro bX hbX
  simp at hbX
  simp [hbX]
  obtain ⟨good, hgood⟩ : ∃ good, good = goodF r := ⟨_, rfl⟩
  obtain ⟨nx, hnx⟩ : ∃ nx : Nat → List Nat, nx = fun n => moveL r n joint := ⟨_, rfl⟩
  have hi0 : List.replicate S (AV.int .i64 0) = (initL good S 0).map (.int .i64) := List.ext_getElem (by simp) fun i h1 h2 => by simp [initL]
  have hx0 : List.replicate S AV.nilsl = rowL good nx S 0 := List.ext_getElem (by simp) fun i h1 h2 => by simp [rowL]
  refine awp_loop_g (γ := Nat) (fun n t h => (n ≤ S) ∧ t 1 = .bool joint ∧ t 2 = .ptr b2 0 ∧ t 6 = .int .i64 S ∧ t 7 = .osl bR 0 S 1 ∧ t 8 = .osl bX 0 S 1 ∧ t 9 = .int .i64 n ∧ h = ((AHeap.empty.upd b2 (.cells [.int .i64 r.m, .int .i64 r.c, rowsA r.next])).upd bR (.cells ((initL good S n).map (.int .i64)))).upd bX (.cells (rowL good nx S n))) (fun n => S - n) (0) (turnA_self (by simp [hi0, hx0])) ?_
  rintro n t h ⟨hn, h1, h2, h6, h7, h8, h9, rfl⟩
  by_cases hlt : n < S
  · have hwn : IntKind.i64.wrap ((n : Int) + 1) = (n : Int) + 1 := wrap_i64 (by omega) (by omega)
    have cg := r_IsGood r hr n (by omega)
    have cx := r_Next r hr n (by omega) joint
    rw [hav] at cg cx
    have hg' : goodF r n = good n := by rw [hgood]
    have hx' : moveL r n joint = nx n := by rw [hnx]
    rw [hg'] at cg
    rw [hx'] at cx
    have hn1 : n + 1 ≤ S := by omega
    have hs1 : splice ((initL good S n).map (AV.int .i64)) n [AV.int .i64 (-1)] = ((initL good S n).map (AV.int .i64)).set n (.int .i64 (-1)) := splice_one (by simp; omega)
    have hs2 : splice (((initL good S n).map (AV.int .i64)).set n (.int .i64 (-1))) n [AV.int .i64 0] = (((initL good S n).map (AV.int .i64)).set n (.int .i64 (-1))).set n (.int .i64 0) := splice_one (by simp; omega)
    have hs3 : splice (rowL good nx S n) n [listA (nx n)] = (rowL good nx S n).set n (listA (nx n)) := splice_one (by simp; omega)
    simp [h1, h2, h6, h7, h8, h9, hlt, hn1, hbR, hbX, hs1]
    refine cg.use ?_
    cases hg : good n with
    | true =>
      have e1 := congrArg (List.map (AV.int .i64)) (initL_good (size := S) hg)
      simp only [List.map_set, List.set_set] at e1
      have e2 := rowL_good (nx := nx) (size := S) hg
      simp [h1, h2, h6, h7, h8, h9, hlt, hn1, hbR, hbX, hs2]
      rw [e1, e2]
      exact turnA_self ⟨n + 1, by omega, by omega, by simp [h1, h2, h6, h7, h8, h9, hwn]⟩
    | false =>
      have e1 := congrArg (List.map (AV.int .i64)) (initL_bad (size := S) hg)
      simp only [List.map_set] at e1
      have e2 := rowL_bad (nx := nx) (size := S) hg
      simp [h1, h2, h6, h7, h8, h9, hlt, hn1, hbR, hbX]
      refine cx.use ?_
      simp [h1, h2, h6, h7, h8, h9, hlt, hn1, hbR, hbX, hs3]
      rw [e1, e2]
      exact turnA_self ⟨n + 1, by omega, by omega, by simp [h1, h2, h6, h7, h8, h9, hwn]⟩
  · have hnE : n = S := by omega
    have F0 := fits_init good nx S
    obtain ⟨X, hX⟩ : ∃ X, X = rowL good nx S S := ⟨_, rfl⟩
    have hXl : X.length = S := by rw [hX]; simp
    simp [h1, h2, h6, h7, h8, h9, hlt]
    rw [hnE, ← hX]
    refine awp_loop_g (γ := LR) (fun q t h => (Fits good nx S q.ρ) ∧ (q.again = false → Stuck nx q.ρ S) ∧ t 6 = .int .i64 S ∧ t 7 = .osl bR 0 S 1 ∧ t 8 = .osl bX 0 S 1 ∧ t 10 = .bool q.again ∧ h = ((AHeap.empty.upd b2 (.cells [.int .i64 r.m, .int .i64 r.c, rowsA r.next])).upd bR (.cells (q.ρ.map (.int .i64)))).upd bX (.cells X)) (fun q => 2 * negs q.ρ + q.again.toNat) (⟨true, initL good S S⟩) (turnA_self (by simp [h1, h2, h6, h7, h8, h9]; exact F0)) ?_
    rintro q t h ⟨hF, hst, h6, h7, h8, h10, rfl⟩
    obtain ⟨again, ρ⟩ := q
    simp only at h6 h7 h8 h10 hF hst
    cases again with
    | true =>
      simp [h6, h7, h8, h10]
      refine awp_loop_g (γ := LN) (fun p t h => (p.n ≤ S) ∧ (Fits good nx S p.ρ) ∧ ((p.again = true → negs p.ρ < negs ρ) ∧ (p.again = false → p.ρ = ρ ∧ Stuck nx ρ p.n)) ∧ t 6 = .int .i64 S ∧ t 7 = .osl bR 0 S 1 ∧ t 8 = .osl bX 0 S 1 ∧ t 10 = .bool p.again ∧ t 11 = .int .i64 p.n ∧ h = ((AHeap.empty.upd b2 (.cells [.int .i64 r.m, .int .i64 r.c, rowsA r.next])).upd bR (.cells (p.ρ.map (.int .i64)))).upd bX (.cells X)) (fun p => S - p.n) (⟨0, false, ρ⟩) (turnA_self (by simp [h6, h7, h8, h10]; exact ⟨hF, fun m hm => absurd hm (by omega)⟩)) ?_
      rintro p t h ⟨hn, hF2, hag, h6, h7, h8, h10, h11, rfl⟩
      obtain ⟨n, ag, σ⟩ := p
      simp only at h6 h7 h8 h10 h11 hn hF2 hag
      have hσl := hF2.len
      by_cases hltn : n < S
      · have hwn : IntKind.i64.wrap ((n : Int) + 1) = (n : Int) + 1 := wrap_i64 (by omega) (by omega)
        have hnl : n < σ.length := by omega
        obtain ⟨x, hx⟩ : ∃ x, x = σ[n] := ⟨_, rfl⟩
        have hσn : σ[n]? = some x := by rw [List.getElem?_eq_getElem hnl, hx]
        have hσg : σ.getD n 0 = x := by rw [hx]; simp [hnl]
        simp [h6, h7, h8, h10, h11, hltn, hbR, hbX, hσn]
        refine condA_dec (fun hge => ?_) fun hlt0 => ?_
        · simp [h6, h7, h8, h10, h11]
          refine turnA_self ⟨⟨n + 1, ag, σ⟩, by simp only; omega, by simp only; omega, hF2, ⟨hag.1, fun q => ⟨(hag.2 q).1, fun m hm hm0 => ?_⟩⟩, by simp [h6, h7, h8, h10, h11, hwn]⟩
          have hm' : m < n + 1 := hm
          by_cases e : m = n
          · subst e; rw [← (hag.2 q).1, hσg] at hm0; exact absurd hge (by omega)
          · exact (hag.2 q).2 m (by omega) hm0
        · have hgd : good n = false := by
            cases hg : good n with
            | false => rfl
            | true => have := hF2.gd n hltn hg; omega
          obtain ⟨L, hL⟩ : ∃ L, L = nx n := ⟨_, rfl⟩
          have hXn : X[n]? = some (listA L) := by
            rw [hX, hL]; simp [rowL, hltn, hgd]
          have hLlen : L.length ≤ 64 := by rw [hL, hnx]; exact moveL_len r hr n joint
          have hcl : ∀ n, n < S → ∀ t ∈ nx n, t < S := by intro m _; rw [hnx, hS]; exact moveL_lt hr m joint
          have hLlt : ∀ t ∈ L, t < S := by rw [hL, hnx, hS]; exact moveL_lt hr n joint
          have hsplice : ∀ v : AV, splice (σ.map (AV.int .i64)) n [v] = (σ.map (AV.int .i64)).set n v := fun v => splice_one (by simp; omega)
          simp [h6, h7, h8, h10, h11, hbR, hbX]
          refine awp_loop_g (γ := LK) (fun u t h => (u.k ≤ L.length) ∧ (KInv σ L u.k u.known u.most) ∧ t 6 = .int .i64 S ∧ t 7 = .osl bR 0 S 1 ∧ t 8 = .osl bX 0 S 1 ∧ t 10 = .bool ag ∧ t 11 = .int .i64 n ∧ t 12 = .bool u.known ∧ t 13 = .int .i64 u.most ∧ t 14 = .int .i64 u.k ∧ h = ((AHeap.empty.upd b2 (.cells [.int .i64 r.m, .int .i64 r.c, rowsA r.next])).upd bR (.cells (σ.map (.int .i64)))).upd bX (.cells X)) (fun u => L.length - u.k) (⟨0, true, 0⟩) (turnA_self (by simp [h6, h7, h8, h10, h11]; exact ⟨fun _ => ⟨rfl, fun t ht => by simp at ht⟩, fun q => by cases q⟩)) ?_
          rintro u t h ⟨hk, hkn, h6, h7, h8, h10, h11, h12, h13, h14, rfl⟩
          obtain ⟨k, known, most⟩ := u
          simp only at h6 h7 h8 h10 h11 h12 h13 h14 hk hkn
          obtain ⟨hk1, hk2⟩ := hkn
          by_cases hkl : k < L.length ∧ known = true
          · obtain ⟨hkl, rfl⟩ := hkl
            obtain ⟨hm1, hm2⟩ := hk1 rfl
            have hwk : IntKind.i64.wrap ((k : Int) + 1) = (k : Int) + 1 := wrap_i64 (by omega) (by omega)
            have hLn : ¬ L = [] := fun e => by rw [e] at hkl; simp at hkl
            have hla : listA L = .sl L.length (L.map fun x : Nat => AV.int .i64 (x : Int)) := by unfold listA; rw [if_neg hLn]; rfl
            obtain ⟨t0, ht0⟩ : ∃ t0, t0 = L[k] := ⟨_, rfl⟩
            have ht0' : L[k]'hkl = t0 := ht0.symm
            have ht0L : t0 ∈ L := by rw [ht0]; exact List.getElem_mem hkl
            have ht0s : t0 < S := hLlt t0 ht0L
            have ht0l : t0 < σ.length := by omega
            obtain ⟨y, hy⟩ : ∃ y, y = σ[t0] := ⟨_, rfl⟩
            have hσt : σ[t0]? = some y := by rw [List.getElem?_eq_getElem ht0l, hy]
            have hyg : σ.getD t0 0 = y := by rw [hy]; simp [ht0l]
            simp [h6, h7, h8, h10, h11, h12, h13, h14, hla, hXn, hkl, hltn, hbR, hbX, ht0', ht0s, hσt]
            refine turnA_self ⟨⟨k + 1, decide (0 ≤ y), if most < IntKind.i64.wrap (y + 1) then IntKind.i64.wrap (y + 1) else most⟩, by simp only; omega, by simp only; omega, ⟨fun q => ?_, fun q => ?_⟩, by simp [h6, h7, h8, h10, h11, h12, h13, h14, hwk]⟩
            · have hy0 : 0 ≤ y := of_decide_eq_true q
              have hry := hF2.rk t0 ht0s (by rw [hyg]; exact hy0)
              rw [hyg] at hry
              have hyS := hry.lt hcl ht0s
              have hwy : IntKind.i64.wrap (y + 1) = y + 1 := wrap_i64 (by omega) (by omega)
              have htk : L.take (k + 1) = L.take k ++ [t0] := by rw [List.take_succ_eq_append_getElem hkl, ht0']
              refine ⟨?_, ?_⟩
              · simp only
                rw [htk, List.map_append, maxL_append, hwy]
                simp only [List.map_cons, List.map_nil, hyg]
                rw [show maxL [y.toNat + 1] = y.toNat + 1 from by simp [maxL]]
                rw [hm1]
                split <;> omega
              · simp only
                rw [htk]
                intro t ht
                rcases List.mem_append.1 ht with q | q
                · exact hm2 t q
                · simp only [List.mem_singleton] at q; rw [q, hyg]; exact hy0
            · have hy0 : ¬ 0 ≤ y := of_decide_eq_false q
              exact ⟨t0, ht0L, by rw [hyg]; omega⟩
          · have hkE : known = true → k = L.length := fun q => by
              have : ¬ k < L.length := fun q2 => hkl ⟨q2, q⟩
              omega
            cases known with
            | true =>
              have hkL := hkE rfl
              obtain ⟨hm1, hm2⟩ := hk1 rfl
              rw [hkL, List.take_length] at hm1 hm2
              obtain ⟨m, hm⟩ : ∃ m, m = maxL (L.map fun t => (σ.getD t 0).toNat + 1) := ⟨_, rfl⟩
              rw [← hm] at hm1
              have hrk : Rk good nx n m := .step (fun t => (σ.getD t 0).toNat) hgd (by rw [← hL]; exact fun t ht => hF2.rk t (hLlt t ht) (hm2 t ht)) (by rw [← hL]; exact hm)
              have hnx' : σ[n]'hnl < 0 := by rw [← hx]; omega
              have hneg := negs_set hnl hnx' (v := (m : Int)) (by omega)
              have hkl2 : ¬ k < L.length := by omega
              have hse : (σ.map (AV.int .i64)).set n (.int .i64 (m : Int)) = (σ.set n (m : Int)).map (.int .i64) := by rw [List.map_set]
              have hn1 : n + 1 ≤ S := by omega
              simp [h6, h7, h8, h10, h11, h12, h13, h14, -lenA, lenA_listA, hXn, hltn, hbR, hbX, hkl2, hm1, hsplice, hn1]
              refine ⟨by omega, ?_⟩
              rw [hse]
              refine turnA_self ⟨⟨n + 1, true, σ.set n (m : Int)⟩, by simp only; omega, by simp only; omega, hF2.set hltn hrk, ⟨fun _ => ?_, fun q => by cases q⟩, by simp [h6, h7, h8, h10, h11, h12, h13, h14, hwn]⟩
              show negs (σ.set n (m : Int)) < negs ρ
              cases ag with
              | true => have := hag.1 rfl; omega
              | false => rw [← (hag.2 rfl).1]; omega
            | false =>
              have hex := hk2 rfl
              have hz : Stuck nx σ n → Stuck nx σ (n + 1) := fun q m hm hm0 => by
                by_cases e : m = n
                · subst e; rw [← hL]; exact hex
                · exact q m (by omega) hm0
              have hag2 : (ag = true → negs σ < negs ρ) ∧ (ag = false → σ = ρ ∧ Stuck nx ρ (n + 1)) := ⟨hag.1, fun q => by
                obtain ⟨e1, e2⟩ := hag.2 q
                refine ⟨e1, ?_⟩
                rw [← e1] at e2 ⊢
                exact hz e2⟩
              by_cases hkl2 : k < L.length
              · simp [h6, h7, h8, h10, h11, h12, h13, h14, -lenA, lenA_listA, hXn, hltn, hbR, hbX, hkl2]
                exact turnA_self ⟨⟨n + 1, ag, σ⟩, by simp only; omega, by simp only; omega, hF2, hag2, by simp [h6, h7, h8, h10, h11, h12, h13, h14, hwn]⟩
              · simp [h6, h7, h8, h10, h11, h12, h13, h14, -lenA, lenA_listA, hXn, hltn, hbR, hbX, hkl2]
                exact turnA_self ⟨⟨n + 1, ag, σ⟩, by simp only; omega, by simp only; omega, hF2, hag2, by simp [h6, h7, h8, h10, h11, h12, h13, h14, hwn]⟩
      · have hne : n = S := by omega
        simp [h6, h7, h8, h10, h11, hltn]
        cases ag with
        | true =>
          have hz := hag.1 rfl
          exact turnA_self ⟨⟨true, σ⟩, by show 2 * negs σ + 1 < 2 * negs ρ + 1; omega, hF2, (fun q => by cases q), by simp [h6, h7, h8, h10, h11]⟩
        | false =>
          obtain ⟨hz1, hz2⟩ := hag.2 rfl
          subst hz1
          exact turnA_self ⟨⟨false, σ⟩, by simp, hF2, fun _ => by rw [← hne]; exact hz2, by simp [h6, h7, h8, h10, h11]⟩
    | false =>
      have hstk := hst rfl
      have hρl := hF.len
      simp [h6, h7, h8, h10]
      refine awp_loop_g (γ := Nat) (fun n t h => (n ≤ S) ∧ (posB ρ n) ∧ t 6 = .int .i64 S ∧ t 7 = .osl bR 0 S 1 ∧ t 15 = .int .i64 n ∧ h = ((AHeap.empty.upd b2 (.cells [.int .i64 r.m, .int .i64 r.c, rowsA r.next])).upd bR (.cells (ρ.map (.int .i64)))).upd bX (.cells X)) (fun n => S - n) (0) (turnA_self (by simp [h6, h7, h8, h10]; exact fun m hm => absurd hm (by omega))) ?_
      rintro n t h ⟨hn, hpos, h6, h7, h15, rfl⟩
      by_cases hltn : n < S
      · have hwn : IntKind.i64.wrap ((n : Int) + 1) = (n : Int) + 1 := wrap_i64 (by omega) (by omega)
        have hnl : n < ρ.length := by omega
        obtain ⟨x, hx⟩ : ∃ x, x = ρ[n] := ⟨_, rfl⟩
        have hρn : ρ[n]? = some x := by rw [List.getElem?_eq_getElem hnl, hx]
        have hρg : ρ.getD n 0 = x := by rw [hx]; simp [hnl]
        simp [h6, h7, h15, hltn, hbR, hbX, hρn]
        refine condA_dec (fun hlt0 => ?_) fun hge => ?_
        · have hR : ranksF r joint = .tup [.nilsl, .bool false] := by
            refine ranksF_none (S := fun m => m < S ∧ ρ.getD m 0 < 0) (fun m hm => ?_) (n := n) (by omega) ⟨by omega, by rw [hρg]; exact hlt0⟩
            obtain ⟨t0, h1, h2⟩ := hstk m hm.1 hm.2
            refine ⟨?_, t0, by rw [hnx] at h1; exact h1, ?_, h2⟩
            · rw [← hgood]
              cases hg : good m with
              | false => rfl
              | true => have := hF.gd m hm.1 hg; have := hm.2; omega
            · rw [hS]; rw [hnx] at h1; exact moveL_lt hr m joint t0 h1
          simp [h6, h7, h15]
          refine finA_drop ?_
          rw [hR]
        · simp [h6, h7, h15]
          refine turnA_self ⟨n + 1, by omega, by omega, fun m hm => ?_, by simp [h6, h7, h15, hwn]⟩
          by_cases e : m = n
          · subst e; rw [hρg]; omega
          · exact hpos m (by omega)
      · have hne : n = S := by omega
        obtain ⟨L, hL⟩ : ∃ L : List Nat, L = ρ.map Int.toNat := ⟨_, rfl⟩
        have hρL : ρ = L.map fun x : Nat => (x : Int) := by
          rw [hL, List.map_map]
          refine List.ext_getElem (by simp) fun i h1 h2 => ?_
          have := hpos i (by omega)
          simp only [List.getElem_map, Function.comp]
          rw [show ρ.getD i 0 = ρ[i] from by simp [h1]] at this
          omega
        have hR : ranksF r joint = .tup [natsA L, .bool true] := by
          refine ranksF_some ⟨by rw [hL]; simp; omega, fun m hm => ?_⟩
          have h1 := hF.rk m (by omega) (hpos m (by omega))
          rw [← hgood, ← hnx, hL]
          have h2 : m < ρ.length := by omega
          simp [h2] at h1 ⊢
          exact h1
        rw [hR]
        simp [h6, h7, h15, hltn]
        have hne' : ¬ b2 = bR ∧ ¬ b2 = bX := by refine ⟨fun e => ?_, fun e => ?_⟩ <;> simp [e] at hbR hbX
        refine finA_all 2 ?_
        have hLl : L.length = S := by rw [hL]; simp; omega
        have hf : Fresh AHeap.empty bR := rfl
        have htl : (L.map fun x : Nat => AV.int .i64 (x : Int)).take S = L.map fun x : Nat => AV.int .i64 (x : Int) := List.take_of_length_le (by simp; omega)
        simp [frz_osl hf, hbX, hρL, hLl, natsA, Function.comp_def, htl]
end Go.Proofs

end
