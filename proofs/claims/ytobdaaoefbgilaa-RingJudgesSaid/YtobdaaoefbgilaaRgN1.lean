/-
  Ring: the reference's Judge.
-/
import Derived.Test.YtobdaaoefbgilaaG8
set_option linter.unusedSimpArgs false
set_option linter.unusedVariables false
set_option linter.unusedSectionVars false
namespace Go.Proofs
open Go Go.AH
set_option maxRecDepth 10000
set_option maxHeartbeats 4000000

def badK (r : Rul) (M : List Nat) (k : Nat) : Bool := (M.take k).any fun t => !goodF r t
theorem badK_zero (r : Rul) (M : List Nat) : badK r M 0 = false := rfl
theorem r_Judge (r : Rul) (hr : r.ok) (joint : Bool) {c a m : Nat} {ρ L : AV} (vd : Verd r joint c a m ρ L) : Pure Try.prog 42 [r.av, .bool joint] (.agg [.int .i64 c, .int .i64 a, .int .i64 m]) := by
  refine pure_of (acalls_of Try.func42 rfl Try.call42 (by kernel_rfl) (by show _ ≤ (83 : Nat); simp) ?_)
  have q1 := hr.m2; have q2 := hr.m6; have q3 := hr.c2; have q4 := hr.c6; have q5 := hr.sz
  have cs := r_Size r.m r.c q1 q2 q3 q4 q5
  have hav : r.av = .agg [.int .i64 r.m, .int .i64 r.c, rowsA r.next] := rfl
  have hSz : (pw r.c r.m : Nat) = r.size := rfl
  rw [hSz] at cs
  rw [hav]
  have hsp : 0 < r.size := pw_pos (by omega) _
  simp
  intro b2 hb2
  simp
  intro b4 hb4
  simp at hb4
  simp [hb4]
  refine cs.use ?_
  simp
  refine awp_loop_g (γ := Nat) (fun n t h => (n ≤ r.size) ∧ (∀ m, m < n → stuckF r m = false) ∧ t 1 = .bool joint ∧ t 2 = .ptr b2 0 ∧ t 4 = .ptr b4 0 ∧ t 5 = .int .i64 (r.size : Nat) ∧ t 6 = .int .i64 n ∧ h = (AHeap.empty.upd b2 (.cells [.int .i64 r.m, .int .i64 r.c, rowsA r.next])).upd b4 (.cells [.int .i64 0, .int .i64 0, .int .i64 0])) (fun n => r.size - n) (0) (turnA_self (by simp [hb4])) ?_
  rintro n t h ⟨hn, hst, h1, h2, h4, h5, h6, rfl⟩
  by_cases hlt : n < r.size
  · have hwi : IntKind.i64.wrap ((n : Int) + 1) = (n : Int) + 1 := wrap_i64 (by omega) (by omega)
    have c1 := r_Of r hr n hlt
    have c2 := r_Ready r hr (ofF r.c r.m n) (of_cfg hr n)
    rw [hav] at c1 c2
    simp [h1, h2, h4, h5, h6, hlt]
    refine awp_draw_text (by kernel_rfl) [27, 28] [(.fn (.func 28) [] [], [.agg [.int .i64 r.m, .int .i64 r.c, rowsA r.next], .int .i64 n], natsA (ofF r.c r.m n)),
      (.fn (.func 23) [] [], [.agg [.int .i64 r.m, .int .i64 r.c, rowsA r.next], natsA (ofF r.c r.m n)], listA (readyF r (ofF r.c r.m n)))] (by kernel_rfl) (by kernel_rfl) (by simp; exact ⟨PureV.of c1, PureV.of c2⟩) ?_
    simp [h1, h2, h4, h5, h6, gamGet_here, gamGet_cons, -lenA, lenA_listA, hb4]
    refine condA_dec (fun e => ?_) fun e => ?_
    · simp [h1, h2, h4, h5, h6, hb4]
      refine finA_drop ?_
      have hs : stuckF r n = true := by
        unfold stuckF
        simpa using e
      obtain ⟨rfl, rfl, rfl, _⟩ := vd.det (.stuck hlt hs hst)
      rfl
    · simp [h1, h2, h4, h5, h6]
      exact turnA_self ⟨n + 1, by omega, by omega, fun m hm => by
        by_cases e2 : m = n
        · subst e2; unfold stuckF; simpa using e
        · exact hst m (by omega), by simp [h1, h2, h4, h5, h6, hwi]⟩
  · obtain rfl : n = r.size := by omega
    simp [h1, h2, h4, h5, h6]
    refine awp_loop_g (γ := Nat) (fun n t h => (n ≤ r.size) ∧ (∀ m, m < n → leaveF r joint m = false) ∧ t 1 = .bool joint ∧ t 2 = .ptr b2 0 ∧ t 4 = .ptr b4 0 ∧ t 5 = .int .i64 (r.size : Nat) ∧ t 7 = .int .i64 n ∧ h = (AHeap.empty.upd b2 (.cells [.int .i64 r.m, .int .i64 r.c, rowsA r.next])).upd b4 (.cells [.int .i64 0, .int .i64 0, .int .i64 0])) (fun n => r.size - n) (0) (turnA_self (by simp [h1, h2, h4, h5, h6])) ?_
    rintro n t h ⟨hn, hlv, h1, h2, h4, h5, h7, rfl⟩
    by_cases hlt : n < r.size
    · have hwi : IntKind.i64.wrap ((n : Int) + 1) = (n : Int) + 1 := wrap_i64 (by omega) (by omega)
      have cg := r_IsGood r hr n hlt
      have cx := r_Next r hr n hlt joint
      rw [hav] at cg cx
      simp [h1, h2, h4, h5, h7, hlt, hb4]
      refine cg.use ?_
      cases hg : goodF r n with
      | true =>
        simp [h1, h2, h4, h5, h7, hb4]
        refine cx.use ?_
        have hmlt := moveL_lt hr n joint
        have hml := moveL_len r hr n joint
        have hlvn : leaveF r joint n = (moveL r n joint).any fun t => !goodF r t := by unfold leaveF; rw [hg, Bool.true_and]
        obtain ⟨M, hM⟩ : ∃ M, M = moveL r n joint := ⟨_, rfl⟩
        rw [← hM] at hmlt hml hlvn ⊢
        simp [h1, h2, h4, h5, h7]
        refine awp_loop_g (γ := Nat) (fun k t h => (k ≤ M.length) ∧ (badK r M k = false) ∧ t 1 = .bool joint ∧ t 2 = .ptr b2 0 ∧ t 4 = .ptr b4 0 ∧ t 5 = .int .i64 (r.size : Nat) ∧ t 7 = .int .i64 n ∧ t 8 = listA M ∧ t 9 = .int .i64 k ∧ h = (AHeap.empty.upd b2 (.cells [.int .i64 r.m, .int .i64 r.c, rowsA r.next])).upd b4 (.cells [.int .i64 0, .int .i64 0, .int .i64 0])) (fun k => M.length - k) (0) (turnA_self (by simp [h1, h2, h4, h5, h7, badK_zero])) ?_
        rintro k t h ⟨hk, hkf, h1, h2, h4, h5, h7, h8, h9, rfl⟩
        by_cases hkl : k < M.length
        · have hwk : IntKind.i64.wrap ((k : Int) + 1) = (k : Int) + 1 := wrap_i64 (by omega) (by omega)
          have hLn : ¬ M = [] := fun e => by rw [e] at hkl; simp at hkl
          have hla : listA M = .sl M.length (M.map fun x : Nat => AV.int .i64 (x : Int)) := by unfold listA; rw [if_neg hLn]; rfl
          obtain ⟨t0, ht0⟩ : ∃ t0, t0 = M[k] := ⟨_, rfl⟩
          have ht0' : M[k]'hkl = t0 := ht0.symm
          have ht0s : t0 < r.size := hmlt t0 (by rw [ht0]; exact List.getElem_mem hkl)
          have hks : badK r M (k + 1) = !goodF r t0 := by
            unfold badK at hkf ⊢
            rw [List.take_succ_eq_append_getElem hkl, List.any_append, hkf, ht0']; simp
          have cg2 := r_IsGood r hr t0 ht0s
          rw [hav] at cg2
          simp [h1, h2, h4, h5, h7, h8, h9, hla, hkl]
          refine awp_draw_text (by kernel_rfl) [57] [(.fn (.func 41) [] [], [.agg [.int .i64 r.m, .int .i64 r.c, rowsA r.next], .int .i64 t0], .bool (goodF r t0))] (by kernel_rfl) (by kernel_rfl) (by simp; exact PureV.of cg2) ?_
          simp [h1, h2, h4, h5, h7, h8, h9, hla, ht0', hkl, hb4, gamGet_here]
          cases hg0 : goodF r t0 with
          | true =>
            simp [h1, h2, h4, h5, h7, h8, h9]
            exact turnA_self ⟨k + 1, by omega, by omega, by rw [hks, hg0]; rfl, by simp [h1, h2, h4, h5, h7, h8, h9, hwk, hla]⟩
          | false =>
            simp [h1, h2, h4, h5, h7, h8, h9, hb4]
            refine finA_drop ?_
            have hl : leaveF r joint n = true := by
              rw [hlvn, List.any_eq_true]
              exact ⟨t0, by rw [ht0]; exact List.getElem_mem hkl, by rw [hg0]; rfl⟩
            obtain ⟨rfl, rfl, rfl, _⟩ := vd.det (.leaves hst hlt hl hlv)
            rfl
        · have hke : k = M.length := by omega
          simp [h1, h2, h4, h5, h7, h8, h9, -lenA, lenA_listA, hkl]
          unfold badK at hkf
          rw [hke, List.take_length, ← hlvn] at hkf
          exact turnA_self ⟨n + 1, by omega, by omega, fun m hm => by
            by_cases e2 : m = n
            · subst e2; exact hkf
            · exact hlv m (by omega), by simp [h1, h2, h4, h5, h7, h8, h9, hwi]⟩
      | false =>
        simp [h1, h2, h4, h5, h7]
        exact turnA_self ⟨n + 1, by omega, by omega, fun m hm => by
          by_cases e2 : m = n
          · subst e2; unfold leaveF; rw [hg]; rfl
          · exact hlv m (by omega), by simp [h1, h2, h4, h5, h7, hwi]⟩
    · obtain rfl : n = r.size := by omega
      have cr := r_Ranks r hr joint
      rw [hav] at cr
      simp [h1, h2, h4, h5, h7, hb4]
      by_cases hex : ∃ L, RkAll (goodF r) (fun n => moveL r n joint) r.size L
      · obtain ⟨L, hL⟩ := hex
        rw [ranksF_some hL] at cr
        have hLl := hL.1
        have hLb : ∀ x ∈ L, x ≤ 1000000 := fun x hx => by
          obtain ⟨i, hi, rfl⟩ := List.getElem_of_mem hx
          have hk := hL.2 i (by omega)
          rw [show L.getD i 0 = L[i] from by simp [hi]] at hk
          have := hk.lt (size := r.size) (fun a ha t ht => moveL_lt hr a joint t ht) (by omega)
          omega
        refine cr.use ?_
        simp [h1, h2, h4, h5, h7]
        refine awp_loop_g (γ := Nat) (fun i t h => (i ≤ r.size) ∧ t 4 = .ptr b4 0 ∧ t 5 = .int .i64 (r.size : Nat) ∧ t 10 = natsA L ∧ t 12 = .int .i64 (maxL (L.take i) : Nat) ∧ t 13 = .int .i64 i ∧ h = (AHeap.empty.upd b2 (.cells [.int .i64 r.m, .int .i64 r.c, rowsA r.next])).upd b4 (.cells [.int .i64 0, .int .i64 0, .int .i64 0])) (fun i => r.size - i) (0) (turnA_self (by simp [h1, h2, h4, h5, h7, maxL])) ?_
        rintro i t h ⟨hi, h4, h5, h10, h12, h13, rfl⟩
        by_cases hlt : i < r.size
        · have hwi : IntKind.i64.wrap ((i : Int) + 1) = (i : Int) + 1 := wrap_i64 (by omega) (by omega)
          have hiL : i < L.length := by omega
          have hms := maxL_take hiL
          have hmx : (if maxL (L.take i) < L[i] then (L[i] : Int) else (maxL (L.take i) : Int)) = (maxL (L.take (i + 1)) : Nat) := by
            rw [hms]; split <;> omega
          simp [h4, h5, h10, h12, h13, hlt, hiL, hLl, natsA]
          exact turnA_self ⟨i + 1, by omega, by omega, by simp [h4, h5, h10, h12, h13, hwi, hmx, natsA, hLl]⟩
        · obtain rfl : i = r.size := by omega
          have htl : L.take r.size = L := List.take_of_length_le (by omega)
          simp [h4, h5, h10, h12, h13, hb4, htl]
          refine finA_drop ?_
          obtain ⟨rfl, rfl, rfl, _⟩ := vd.det (.steady hst hlv hL)
          rfl
      · have hrn : ranksF r joint = .tup [.nilsl, .bool false] := by unfold ranksF; rw [dif_neg hex]
        rw [hrn] at cr
        refine cr.use ?_
        simp [h1, h2, h4, h5, h7, hb4]
        refine finA_drop ?_
        cases vd with
        | stuck h1 h2 h3 => rw [hst _ h1] at h2; cases h2
        | leaves h1 h2 h3 h4 => rw [hlv _ h2] at h3; cases h3
        | lasso _ _ _ => rfl
        | steady _ _ h => exact absurd ⟨_, h⟩ hex
end Go.Proofs
