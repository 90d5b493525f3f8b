/-
  Ring: IsRound.
-/
import Derived.Test.YtobdaaoefbgilaaRgK2
set_option linter.unusedSimpArgs false
set_option linter.unusedVariables false
set_option linter.unusedSectionVars false
namespace Go.Proofs
open Go Go.AH
set_option maxRecDepth 10000
set_option maxHeartbeats 4000000

theorem w_Collect {S : AHeap → Prop} (hSu : ∀ h l c, S h → h l = none → S (h.upd l c)) {f : FuncId} {first caps : List AV} {L : List Nat} (hL : L.length ≤ 1000000) (it : IterH Try.prog S (.fn (.func f) first caps) (fun t : Nat => [.int .i64 t]) L true)
    (hone : (AV.fn (.func f) first caps).one = true) (H : AHeap) (hH : S H) : ACalls Try.prog 69 [.fn (.func f) first caps] H fun a h => a = listA L ∧ h = H := by
  refine acalls_of Try.func69 rfl Try.call69 (by kernel_rfl) (by show _ ≤ (5 : Nat); simp) ?_
  have c1 := w_AppendSeq hSu hL it hone H hH
  simp
  refine c1.use ?_
  simp
  exact finA_self ⟨rfl, rfl⟩
def seenE (l : List Int) : List (AV × AV) := l.map fun x => (.int .i64 x, .bool true)
theorem seen_get (x : Int) : ∀ l : List Int, mapGet (seenE l) (.int .i64 x) = if hasF l x = true then some (.bool true) else none
  | [] => rfl
  | y :: l => by
    have ih := seen_get x l
    unfold seenE hasF at ih ⊢
    simp only [List.map_cons, mapGet, List.any_cons]
    by_cases e : y = x
    · subst e; simp
    · have e1 : ¬ AV.int .i64 y = AV.int .i64 x := fun q => by cases q; exact e rfl
      rw [if_neg e1, ih]; simp [e]
theorem seen_set {x : Int} {l : List Int} (h : hasF l x = false) : mapSet (seenE l) (.int .i64 x) (.bool true) = seenE (l ++ [x]) := by
  have := seen_get x l
  rw [if_neg (by rw [h]; simp)] at this
  rw [mapSet_none this]
  simp [seenE]

/-- The moves' list, as whole numbers. -/
def moveI (r : Rul) (n : Nat) (joint : Bool) : List Int := (moveL r n joint).map fun x : Nat => (x : Int)
def okAt (r : Rul) (B : List Int) (i : Nat) : Bool := decide (0 ≤ B.getD i 0) && decide (B.getD i 0 < r.size) && !hasF (B.take i) (B.getD i 0) && !goodF r (B.getD i 0).toNat
def nextAt (r : Rul) (B : List Int) (joint : Bool) (i : Nat) : Bool := hasF (moveI r (B.getD i 0).toNat joint) (B.getD ((i + 1) % B.length) 0)
/-- Are the configurations a way round? -/
def isRoundF (r : Rul) (B : List Int) (joint : Bool) : Bool := decide (2 ≤ B.length) && (List.range B.length).all fun i => okAt r B i && nextAt r B joint i
def roundOn (r : Rul) (B : List Int) (joint : Bool) (n : Nat) : Bool := (List.range n).all fun i => okAt r B i && nextAt r B joint i
theorem roundOn_succ (r : Rul) (B : List Int) (joint : Bool) (n : Nat) : roundOn r B joint (n + 1) = (roundOn r B joint n && (okAt r B n && nextAt r B joint n)) := by
  unfold roundOn
  rw [List.range_succ, List.all_append]; simp
theorem roundOn_cut {r : Rul} {B : List Int} {joint : Bool} {n : Nat} (hn : n < B.length) (h : (okAt r B n && nextAt r B joint n) = false) : isRoundF r B joint = false := by
  unfold isRoundF
  rw [show ((List.range B.length).all fun i => okAt r B i && nextAt r B joint i) = false from by rw [List.all_eq_false]; exact ⟨n, List.mem_range.2 hn, by rw [h]; simp⟩]
  simp
theorem iter_moves (r : Rul) (hr : r.ok) (joint : Bool) (b n : Nat) (hn : n < r.size) : IterH Try.prog (JAt r joint b) (mvFn joint b n) (fun t : Nat => [.int .i64 t]) (moveL r n joint) true := by
  cases joint with
  | false => exact it_single r hr false b n hn
  | true => exact it_joint r hr true b n hn
theorem moveL_len (r : Rul) (hr : r.ok) (n : Nat) (joint : Bool) : (moveL r n joint).length ≤ 64 := by
  have h1 := readyF_len0 r (ofF r.c r.m n)
  have h2 := hr.m6
  have h3 := (pow_le64 (readyF r (ofF r.c r.m n)).length (by omega)).1
  unfold moveL
  split
  · simp [jointF]; omega
  · simp [succF]; omega

theorem w_IsRound (r : Rul) (hr : r.ok) (B : List Int) (hB : B.length ≤ 1000000) (joint : Bool) : Pure Try.prog 35 [r.av, listI B, .bool joint] (.bool (isRoundF r B joint)) := by
  refine pure_of (acalls_of Try.func35 rfl Try.call35 (by kernel_rfl) (by show _ ≤ (72 : Nat); simp) ?_)
  have q1 := hr.m2; have q2 := hr.m6; have q3 := hr.c2; have q4 := hr.c6; have q5 := hr.sz
  have cc := w_Check r hr
  have hav : r.av = .agg [.int .i64 r.m, .int .i64 r.c, rowsA r.next] := rfl
  rw [hav] at cc ⊢
  simp
  intro b3 hb3
  simp
  refine cc.use ?_
  simp [-lenA, lenA_list]
  by_cases hlen : 2 ≤ B.length
  · have hne : ¬ B = [] := fun e => by rw [e] at hlen; simp at hlen
    have hl2 : ¬ (B.length : Int) < 2 := by omega
    have cn := newJudge_at r hr joint (AHeap.empty.upd b3 (.cells [.int .i64 r.m, .int .i64 r.c, rowsA r.next]))
    rw [hav] at cn
    simp [hl2]
    refine ACalls.mono cn ?_
    rintro _ _ ⟨bj, rfl, rfl, hbj⟩
    obtain ⟨H0, hH0⟩ : ∃ H0, H0 = ((AHeap.empty.upd b3 (.cells [.int .i64 r.m, .int .i64 r.c, rowsA r.next])).upd bj (.cells (jCells r joint bj))) := ⟨_, rfl⟩
    have hj0 : JAt r joint bj H0 := by rw [hH0]; exact JAt_new r joint bj _
    rw [← hH0]
    simp
    intro bm hbm
    simp [listI_ne hne, intsA]
    refine awp_loop_g (γ := Nat) (fun i t h => (i ≤ B.length) ∧ (roundOn r B joint i = true) ∧ t 1 = .sl B.length (B.map (.int .i64)) ∧ t 7 = .ptr bj 0 ∧ t 8 = .map bm ∧ t 24 = .sl B.length (B.map (.int .i64)) ∧ t 25 = .int .i64 B.length ∧ t 26 = .int .i64 i ∧ h = H0.upd bm (.map (.one (.i .i64)) (seenE (B.take i)))) (fun i => B.length - i) (0) (turnA_self (by simp [roundOn, seenE])) ?_
    rintro i t hx ⟨hi, hal, h1, h7, h8, h24, h25, h26, ex⟩
    rw [ex]
    clear ex
    by_cases hlt : i < B.length
    · have hwi : IntKind.i64.wrap ((i : Int) + 1) = (i : Int) + 1 := wrap_i64 (by omega) (by omega)
      obtain ⟨x, hx⟩ : ∃ x, x = B[i] := ⟨_, rfl⟩
      have hx' : B[i]'hlt = x := hx.symm
      have hxg : B.getD i 0 = x := by rw [hx]; simp [hlt]
      have hcut := fun q => roundOn_cut (r := r) (B := B) (joint := joint) hlt q
      have hsucc := roundOn_succ r B joint i
      rw [hal, Bool.true_and] at hsucc
      simp only [okAt, nextAt, hxg] at hcut hsucc
      have hjm : JAt r joint bj (H0.upd bm (.map (.one (.i .i64)) (seenE (B.take i)))) := hj0.upd hbm
      have gj0 : ∀ off, cellsAt H0 bj off = some ((jCells r joint bj).drop off) := hj0
      have nj := ne_fresh (hj0 0) hbm
      by_cases x0 : x < 0
      · have hF := hcut (by simp [show ¬ 0 ≤ x from by omega])
        simp [h1, h7, h8, h24, h25, h26, hlt, hx', x0]
        exact finA_drop (by rw [hF])
      · by_cases x1 : (r.size : Int) ≤ x
        · have hF := hcut (by simp [show ¬ x < r.size from by omega])
          simp [h1, h7, h8, h24, h25, h26, hlt, hx', x0, x1, gj0, nj, jCells]
          exact finA_drop (by rw [hF])
        · obtain ⟨n, rfl⟩ : ∃ n : Nat, x = (n : Int) := ⟨x.toNat, by omega⟩
          have hn : n < r.size := by omega
          have x1' : ¬ r.size ≤ n := by omega
          have n0 : ¬ (n : Int) < 0 := by omega
          rw [show (n : Int).toNat = n from by omega] at hcut hsucc
          have hsg := seen_get n (B.take i)
          cases hs : hasF (B.take i) n with
          | true =>
            have hF := hcut (by rw [hs]; simp)
            rw [if_pos hs] at hsg
            simp [h1, h7, h8, h24, h25, h26, hlt, hx', n0, x1', gj0, nj, jCells, hsg]
            exact finA_drop (by rw [hF])
          | false =>
            have hss := seen_set hs
            rw [if_neg (by rw [hs]; simp)] at hsg
            have cg := w_good r hr joint bj _ hjm n hn
            simp [h1, h7, h8, h24, h25, h26, hlt, hx', n0, x1', gj0, nj, jCells, hsg]
            refine cg.use ?_
            simp [h1, h7, h8, h24, h25, h26]
            cases hg : goodF r n with
            | true =>
              have hF := hcut (by rw [hg]; simp)
              simp [h1, h7, h8, h24, h25, h26]
              exact finA_drop (by rw [hF])
            | false =>
              obtain ⟨k, hk⟩ : ∃ k, k = (i + 1) % B.length := ⟨_, rfl⟩
              have hkl : k < B.length := by rw [hk]; exact Nat.mod_lt _ (by omega)
              have vm : ((i : Int) + 1).tmod (B.length : Int) = (k : Int) := by rw [Int.tmod_eq_emod_of_nonneg (by omega), hk]; rfl
              have hkg : B.getD k 0 = B[k] := by simp [hkl]
              rw [← hk, hkg] at hcut hsucc
              obtain ⟨y, hy⟩ : ∃ y, y = B[k] := ⟨_, rfl⟩
              have hy' : B[k]'hkl = y := hy.symm
              rw [hy'] at hcut hsucc
              have hts : B.take i ++ [(n : Int)] = B.take (i + 1) := by rw [List.take_succ_eq_append_getElem hlt, hx']
              rw [hts] at hss
              have hjm2 : JAt r joint bj (H0.upd bm (.map (.one (.i .i64)) (seenE (B.take (i + 1))))) := hj0.upd hbm
              have cm := w_moves joint bj (H0.upd bm (.map (.one (.i .i64)) (seenE (B.take (i + 1))))) hjm2.ne n
              have hml := moveL_len r hr n joint
              have cl := w_Collect (fun _ _ _ q ql => JAt.upd q ql) (by omega) (iter_moves r hr joint bj n hn) (by simp) _ hjm2
              have ct := w_Contains (moveI r n joint) (by simp [moveI]; omega) y
              have hla : listI (moveI r n joint) = listA (moveL r n joint) := (listA_I _).symm
              rw [hla] at ct
              simp [h1, h7, h8, h24, h25, h26, hss, hne, hwi, vm, hkl, hy', gj0, nj, jCells]
              refine ACallV.mono cm ?_
              rintro _ _ ⟨rfl, rfl⟩
              simp [h1, h7, h8, h24, h25, h26]
              refine ACalls.mono cl ?_
              rintro _ _ ⟨rfl, rfl⟩
              simp [h1, h7, h8, h24, h25, h26]
              refine ct.use ?_
              simp [h1, h7, h8, h24, h25, h26]
              cases hq : hasF (moveI r n joint) y with
              | true =>
                simp [h1, h7, h8, h24, h25, h26]
                exact turnA_self ⟨i + 1, by omega, by omega, by rw [hsucc, hs, hg, hq]; simp; omega, by simp [h1, h7, h8, h24, h25, h26, hwi]⟩
              | false =>
                have hF := hcut (by rw [hq]; simp)
                simp [h1, h7, h8, h24, h25, h26]
                exact finA_drop (by rw [hF])
    · have hie : i = B.length := by omega
      simp [h1, h7, h8, h24, h25, h26, hlt]
      refine finA_drop ?_
      rw [hie] at hal
      unfold roundOn at hal
      simp [isRoundF, hlen, hal]
  · have hl2 : (B.length : Int) < 2 := by omega
    simp [hl2]
    exact finA_drop (by simp [isRoundF, hlen])
end Go.Proofs
