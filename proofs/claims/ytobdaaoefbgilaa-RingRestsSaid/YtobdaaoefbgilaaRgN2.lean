/-
  Ring: the walk of RingEither.
-/
import Derived.Test.YtobdaaoefbgilaaG8
import Derived.Test.YtobdaaoefbgilaaG9
import Derived.Test.YtobdaaoefbgilaaRgH0
set_option linter.unusedSimpArgs false
set_option linter.unusedVariables false
set_option linter.unusedSectionVars false
namespace Go.Proofs
open Go Go.AH
set_option maxRecDepth 10000
set_option maxHeartbeats 4000000

theorem at_heap {f : FuncId} {args : List AV} {Q : AV → Prop} (c : ACalls Try.prog f args AHeap.empty fun v h => h = AHeap.empty ∧ Q v) (H : AHeap) : ACalls Try.prog f args H fun v h => h = H ∧ Q v := by
  have c2 := ACalls.frame c (h2 := H) Disj.empty
  rw [AHeap.empty_un] at c2
  refine ACalls.mono c2 ?_
  rintro a h' ⟨h1, rfl, D, rfl, q⟩
  exact ⟨AHeap.empty_un, q⟩
theorem RkAll.bd {r : Rul} (hr : r.ok) {joint : Bool} {L : List Nat} (hL : RkAll (goodF r) (fun n => moveL r n joint) r.size L) : ∀ x ∈ L, x < r.size := fun x hx => by
  obtain ⟨i, hi, rfl⟩ := List.getElem_of_mem hx
  have hLl := hL.1
  have hk := hL.2 i (by omega)
  rw [show L.getD i 0 = L[i] from by simp [hi]] at hk
  exact hk.lt (size := r.size) (fun a ha t ht => moveL_lt hr a joint t ht) (by omega)
theorem RoundP.len {good : Nat → Bool} {nx : Nat → List Nat} {S : Nat} {ρ : List Nat} (h : RoundP good nx S ρ) : ρ.length ≤ S := nodup_ltN S ρ h.nd h.lt

theorem l_RingEither (mach col : Int) (next : List (List Int)) (kind : Int) (hn : next.length ≤ 20000000000000) (hrl : ∀ row ∈ next, row.length ≤ 20000000000000) :
    Pure Try.prog 8 [.agg [.int .i64 mach, .int .i64 col, rowsA next], .int .i64 kind] (.bool true) := by
  refine pure_of (acalls_of Try.func8 rfl Try.call8 (by kernel_rfl) (by show _ ≤ (103 : Nat); simp) ?_)
  have hr := tame_ok mach next kind
  have ct := l_tame mach col next kind hn hrl
  obtain ⟨r, hre⟩ : ∃ r, r = tameF mach next kind := ⟨_, rfl⟩
  rw [← hre] at hr ct
  have q1 := hr.m2; have q2 := hr.m6; have q3 := hr.c2; have q4 := hr.c6; have q5 := hr.sz
  have cg := l_give r
  have hav : r.av = .agg [.int .i64 r.m, .int .i64 r.c, rowsA r.next] := rfl
  have hsp : 0 < r.size := pw_pos (by omega) _
  have caw := w_awake
  have cj := w_Judge r hr false
  have ck := w_Rank r hr
  rw [hav] at ct cg cj ck
  simp
  intro b2 hb2
  simp
  refine ct.use ?_
  simp
  intro b5 hb5
  simp at hb5
  simp [hb5]
  refine cg.use ?_
  simp
  intro b6 hb6
  simp at hb6
  simp [hb5, hb6]
  refine ACalls.mono (at_heap cj _) ?_
  rintro _ _ ⟨rfl, c, a, m, ρ, L, rfl, hv, hρ1⟩
  simp [verdA, hρ1]
  intro b7 hb7
  simp at hb7
  simp [hb5, hb6, hb7, hρ1]
  refine ACalls.mono (at_heap ck _) ?_
  rintro _ _ ⟨rfl, c', a', m', ρ', L', hv', hL1, rfl⟩
  obtain ⟨rfl, rfl, rfl, rfl⟩ := hv.det hv'
  clear hv'
  cases hv with
  | @stuck n h1 h2 h3 =>
    simp [hb5, hb6, hb7]
    refine caw.use ?_
    simp
    exact finA_drop rfl
  | @leaves n h1 h2 h3 h4 =>
    simp [hb5, hb6, hb7]
    refine caw.use ?_
    simp
    exact finA_drop rfl
  | @lasso ρ h1 h2 h3 =>
    obtain ⟨e1, e2⟩ := h3.isRound hr (jj := false) (fun q => q)
    have e3 := (h3.isRound hr (jj := true) (fun _ => rfl)).1
    have hl := h3.len
    have c1 := w_IsRound r hr (intL ρ) (by simp [intL]; omega) false
    have c2 := w_IsRound r hr (intL ρ) (by simp [intL]; omega) true
    rw [← natsA_int ρ h3.ne, hav, e1] at c1
    rw [← natsA_int ρ h3.ne, hav, e3] at c2
    have e2I : (1 : Int) < (ρ.length : Int) := by omega
    have e2N : 1 < ρ.length := by omega
    simp [hb5, hb6, hb7]
    refine c1.use ?_
    simp [hb5, hb6, hb7]
    refine c2.use ?_
    simp [hb5, hb6, hb7, natsA, e2I, e2N]
    refine caw.use ?_
    simp
    exact finA_drop rfl
  | @steady L h1 h2 h3 =>
    have hLl := h3.1
    have hLb := h3.bd hr
    have hLne : ¬ L = [] := fun e => by rw [e] at hLl; simp at hLl; omega
    have c1 := w_IsRank r hr (intL L) (by simp [intL]; omega)
    rw [← natsA_int L hLne, hav, h3.isRank hr] at c1
    simp [hb5, hb6, hb7]
    obtain ⟨H, hH⟩ : ∃ H, H = ((((AHeap.empty.upd b2 (.cells [.int .i64 mach, .int .i64 col, rowsA next])).upd b5 (.cells [.int .i64 r.m, .int .i64 r.c, rowsA r.next])).upd b6 (.cells [.int .i64 r.m, .int .i64 r.c, rowsA r.next])).upd b7 (.cells [.int .i64 0, .int .i64 0, .int .i64 (maxL L : Nat), .nilsl])) := ⟨_, rfl⟩
    have e6 : ∀ off, cellsAt H b6 off = some (([.int .i64 r.m, .int .i64 r.c, rowsA r.next] : List AV).drop off) := by intro off; rw [hH]; simp [hb5, hb6, hb7]
    have e7 : ∀ off, cellsAt H b7 off = some (([.int .i64 0, .int .i64 0, .int .i64 (maxL L : Nat), .nilsl] : List AV).drop off) := by intro off; rw [hH]; simp [hb5, hb6, hb7]
    rw [← hH]
    clear hH
    refine awp_loop_g (γ := Nat) (fun i t h => (i ≤ r.size) ∧ t 6 = .ptr b6 0 ∧ t 7 = .ptr b7 0 ∧ t 9 = natsA L ∧ t 10 = .int .i64 0 ∧ t 11 = .int .i64 (maxL (L.take i) : Nat) ∧ t 12 = .int .i64 i ∧ h = H) (fun i => r.size - i) (0) (turnA_self (by simp [maxL])) ?_
    rintro i t hx ⟨hi, h6, h7, h9, h10, h11, h12, ex⟩
    rw [ex]
    clear ex
    by_cases hlt : i < r.size
    · have hwi : IntKind.i64.wrap ((i : Int) + 1) = (i : Int) + 1 := wrap_i64 (by omega) (by omega)
      have hiL : i < L.length := by omega
      have hms := maxL_take hiL
      have hmx : (if maxL (L.take i) < L[i] then (L[i] : Int) else (maxL (L.take i) : Int)) = (maxL (L.take (i + 1)) : Nat) := by
        rw [hms]; split <;> omega
      simp [h6, h7, h9, h10, h11, h12, hlt, hiL, hLl, natsA]
      exact turnA_self ⟨i + 1, by omega, by omega, by simp [h6, h7, h9, h10, h11, h12, hwi, hmx, natsA, hLl]⟩
    · obtain rfl : i = r.size := by omega
      have htl : L.take r.size = L := List.take_of_length_le (by omega)
      simp [h6, h7, h9, h10, h11, h12, e6, e7, natsA, hLl]
      rw [← hLl]
      refine c1.use ?_
      simp [h6, h7, h9, h10, h11, h12, e6, e7, htl]
      refine caw.use ?_
      simp
      exact finA_drop rfl
end Go.Proofs
