/-
  Ring: the walk of RingJudges.
-/
import Derived.Test.YtobdaaoefbgilaaRgN1
import Derived.Test.YtobdaaoefbgilaaRgN2
set_option linter.unusedSimpArgs false
set_option linter.unusedVariables false
set_option linter.unusedSectionVars false
namespace Go.Proofs
open Go Go.AH
set_option maxRecDepth 10000
set_option maxHeartbeats 4000000

theorem goodsL_get {r : Rul} {S i : Nat} (hi : i < S) (hg : goodF r i = true) : ∃ h : (goodsL r i).length < (goodsL r S).length, (goodsL r S)[(goodsL r i).length] = i := by
  have h1 : List.range S = List.range i ++ (i :: (List.range (S - i - 1)).map fun x => i + 1 + x) := by
    refine List.ext_getElem (by simp; omega) fun j h1 h2 => ?_
    simp only [List.getElem_range]
    rcases Nat.lt_trichotomy j i with q | q | q
    · rw [List.getElem_append_left (by simpa using q)]; simp
    · subst q; rw [List.getElem_append_right (by simp)]; simp
    · rw [List.getElem_append_right (by simp; omega)]
      simp only [List.length_range]
      rw [List.getElem_cons]
      split
      · omega
      · simp; omega
  have h2 : goodsL r S = goodsL r i ++ (i :: ((List.range (S - i - 1)).map fun x => i + 1 + x).filter (goodF r)) := by
    unfold goodsL
    rw [h1, List.filter_append, List.filter_cons, if_pos hg]
  have hl : (goodsL r i).length < (goodsL r S).length := by rw [h2]; simp
  refine ⟨hl, ?_⟩
  simp [h2]
theorem l_RingJudges (mach col : Int) (next : List (List Int)) (kind : Int) (hn : next.length ≤ 20000000000000) (hrl : ∀ row ∈ next, row.length ≤ 20000000000000) :
    Pure Try.prog 9 [.agg [.int .i64 mach, .int .i64 col, rowsA next], .int .i64 kind] (.bool true) := by
  refine pure_of (acalls_of Try.func9 rfl Try.call9 (by kernel_rfl) (by show _ ≤ (171 : Nat); simp) ?_)
  have hr := tame_ok mach next kind
  have ct := l_tame mach col next kind hn hrl
  obtain ⟨r, hre⟩ : ∃ r, r = tameF mach next kind := ⟨_, rfl⟩
  rw [← hre] at hr ct
  have q1 := hr.m2; have q2 := hr.m6; have q3 := hr.c2; have q4 := hr.c6; have q5 := hr.sz
  have cg := l_give r
  have hav : r.av = .agg [.int .i64 r.m, .int .i64 r.c, rowsA r.next] := rfl
  have cs := r_Size r.m r.c q1 q2 q3 q4 q5
  have hSz : (pw r.c r.m : Nat) = r.size := rfl
  have hsp : 0 < r.size := pw_pos (by omega) _
  rw [hSz] at cs
  have caw := w_awake
  have cgd := w_Good r hr
  have ck := w_Rank r hr
  rw [hav] at ct cg cgd ck
  obtain ⟨G, hG⟩ : ∃ G, G = goodsL r r.size := ⟨_, rfl⟩
  have hGl : G.length ≤ r.size := by rw [hG]; exact goodsL_len r r.size
  rw [← hG] at cgd
  simp
  intro b2 hb2
  simp
  refine ct.use ?_
  simp
  intro b5 hb5
  simp at hb5
  simp [hb5]
  refine cg.use ?_
  simp
  intro b6 hb6
  simp at hb6
  simp [hb5, hb6]
  refine cgd.use ?_
  have hone : (listA G).one = true := by unfold listA; split <;> rfl
  simp [hone]
  obtain ⟨H, hH⟩ : ∃ H, H = (((AHeap.empty.upd b2 (.cells [.int .i64 mach, .int .i64 col, rowsA next])).upd b5 (.cells [.int .i64 r.m, .int .i64 r.c, rowsA r.next])).upd b6 (.cells [.int .i64 r.m, .int .i64 r.c, rowsA r.next])) := ⟨_, rfl⟩
  have e5 : ∀ off, cellsAt H b5 off = some (([.int .i64 r.m, .int .i64 r.c, rowsA r.next] : List AV).drop off) := by intro off; rw [hH]; simp [hb5, hb6]
  have e6 : ∀ off, cellsAt H b6 off = some (([.int .i64 r.m, .int .i64 r.c, rowsA r.next] : List AV).drop off) := by intro off; rw [hH]; simp [hb5, hb6]
  rw [← hH]
  clear hH
  refine awp_loop_g (γ := Nat) (fun i t h => (i ≤ r.size) ∧ t 5 = .ptr b5 0 ∧ t 6 = .ptr b6 0 ∧ t 7 = listA G ∧ t 8 = .int .i64 0 ∧ t 9 = .int .i64 ((goodsL r i).length : Nat) ∧ t 10 = .int .i64 i ∧ h = H) (fun i => r.size - i) (0) (turnA_self (by simp [goodsL])) ?_
  rintro i t hx ⟨hi, h5, h6, h7, h8, h9, h10, ex⟩
  rw [ex]
  clear ex
  by_cases hlt : i < r.size
  · have hwi : IntKind.i64.wrap ((i : Int) + 1) = (i : Int) + 1 := wrap_i64 (by omega) (by omega)
    have hgs := goodsL_succ r i
    have hgl := goodsL_len r i
    have ci := r_IsGood r hr i hlt
    rw [hav] at ci
    simp [h5, h6, h7, h8, h9, h10, e5, e6]
    refine cs.use ?_
    simp [h5, h6, h7, h8, h9, h10, e5, e6, hlt]
    refine ci.use ?_
    cases hg : goodF r i with
    | true =>
      obtain ⟨hl1, hl2⟩ := goodsL_get hlt hg
      rw [← hG] at hl1
      have hl2' : G[(goodsL r i).length]'hl1 = i := by have := hl2; simp only [← hG] at this; exact this
      have hGne : ¬ G = [] := fun e => by rw [e] at hl1; simp at hl1
      have hwn : IntKind.i64.wrap (((goodsL r i).length : Int) + 1) = ((goodsL r i).length : Int) + 1 := wrap_i64 (by omega) (by omega)
      have hla : listA G = .sl G.length (G.map fun x : Nat => AV.int .i64 (x : Int)) := by unfold listA; rw [if_neg hGne]; rfl
      have hnle : ¬ G.length ≤ (goodsL r i).length := by omega
      have hnleI : ¬ (G.length : Int) ≤ ((goodsL r i).length : Int) := by omega
      rw [hg, if_pos rfl] at hgs
      simp [h5, h6, h7, h8, h9, h10, hla, hnle, hnleI, hl1, hl2']
      exact turnA_self ⟨i + 1, by omega, by omega, by simp [h5, h6, h7, h8, h9, h10, hwi, hgs, hla, hwn]⟩
    | false =>
      rw [hg] at hgs
      simp at hgs
      simp [h5, h6, h7, h8, h9, h10]
      exact turnA_self ⟨i + 1, by omega, by omega, by simp [h5, h6, h7, h8, h9, h10, hwi, hgs]⟩
  · obtain rfl : i = r.size := by omega
    rw [← hG] at h9
    simp [h5, h6, h7, h8, h9, h10, e5, e6]
    refine cs.use ?_
    simp [h5, h6, h7, h8, h9, h10, e5, e6, -lenA, lenA_listA]
    refine awp_loop_g (γ := Nat) (fun k t h => (k ≤ 2) ∧ t 5 = .ptr b5 0 ∧ t 6 = .ptr b6 0 ∧ t 11 = .int .i64 k ∧ h = H) (fun k => 2 - k) (0) (turnA_self (by simp [h5, h6, h7, h8, h9, h10])) ?_
    rintro k t hx ⟨hk, h5, h6, h11, ex⟩
    rw [ex]
    clear ex
    by_cases hk2 : k < 2
    · have hwk : IntKind.i64.wrap ((k : Int) + 1) = (k : Int) + 1 := wrap_i64 (by omega) (by omega)
      have hkI : (k : Int) < 2 := by omega
      obtain ⟨jb, hjb⟩ : ∃ jb, jb = decide (k = 1) := ⟨_, rfl⟩
      have hjI : decide ((k : Int) = 1) = jb := by rw [hjb]; congr 1; exact propext ⟨fun e => by omega, fun e => by omega⟩
      have cj := w_Judge r hr jb
      rw [hav] at cj
      simp [h5, h6, h11, e5, e6, hkI, hk2, hjI, ← hjb]
      refine ACalls.mono (at_heap cj _) ?_
      rintro _ hx ⟨ehx, c, a, m, ρ, L, rfl, hv, hρ1⟩
      rw [ehx]
      clear ehx hx
      have cr := r_Judge r hr jb hv
      rw [hav] at cr
      simp [h5, h6, h11, e5, e6, verdA, hρ1]
      intro b12 hb12
      have n5 := ne_fresh (e5 0) hb12
      have n6 := ne_fresh (e6 0) hb12
      simp [h5, h6, h11, e5, e6, n5, n6, hρ1, hkI, hk2, hjI, ← hjb]
      refine cr.use ?_
      simp [h5, h6, h11, e5, e6]
      intro b14 hb14
      obtain ⟨n1, n2, hb14'⟩ : ¬ b14 = b12 ∧ ¬ b12 = b14 ∧ Fresh H b14 := by simpa using hb14
      have m5 := ne_fresh (e5 0) hb14'
      have m6 := ne_fresh (e6 0) hb14'
      have dr : ∀ c1 c2, Drop ((H.upd b12 c1).upd b14 c2) H := fun c1 c2 => Drop.new (Drop.new (Drop.refl _) hb12) hb14'
      cases hv with
      | @stuck n h1 h2 h3 =>
        simp [h5, h6, h11, e5, e6, n5, n6, n1, n2, m5, m6]
        exact turnA_to H (dr _ _) ⟨k + 1, by omega, by omega, by simp [h5, h6, h11, hwk]⟩
      | @leaves n h1 h2 h3 h4 =>
        simp [h5, h6, h11, e5, e6, n5, n6, n1, n2, m5, m6]
        exact turnA_to H (dr _ _) ⟨k + 1, by omega, by omega, by simp [h5, h6, h11, hwk]⟩
      | @lasso ρ h1 h2 h3 =>
        obtain ⟨w1, w2⟩ := h3.isRound hr (jj := jb) (fun q => q)
        have hl := h3.len
        have c1 := w_IsRound r hr (intL ρ) (by simp [intL]; omega) jb
        have c2 := r_IsRound r hr (intL ρ) (by simp [intL]; omega) jb
        rw [← natsA_int ρ h3.ne, hav, w1] at c1 c2
        have w2I : (0 : Int) < (ρ.length : Int) := by omega
        have w2N : 0 < ρ.length := by omega
        simp [h5, h6, h11, e5, e6, n5, n6, n1, n2, m5, m6, natsA, w2I, w2N, hkI, hk2, hjI, ← hjb]
        refine c2.use ?_
        simp [h5, h6, h11, e5, e6, n5, n6, n1, n2, m5, m6, natsA, w2I, w2N, hkI, hk2, hjI, ← hjb]
        refine c1.use ?_
        simp [h5, h6, h11, e5, e6, n5, n6, n1, n2, m5, m6]
        exact turnA_to H (dr _ _) ⟨k + 1, by omega, by omega, by simp [h5, h6, h11, hwk]⟩
      | @steady L h1 h2 h3 =>
        simp [h5, h6, h11, e5, e6, n5, n6, n1, n2, m5, m6]
        exact turnA_to H (dr _ _) ⟨k + 1, by omega, by omega, by simp [h5, h6, h11, hwk]⟩
    · obtain rfl : k = 2 := by omega
      simp [h5, h6, h11, e5, e6]
      refine ACalls.mono (at_heap ck _) ?_
      rintro _ hx ⟨ehx, c, a, m, ρ, L, hv, hL1, rfl⟩
      rw [ehx]
      clear ehx hx
      have cr := r_Judge r hr false hv
      have crk := r_Ranks r hr false
      rw [hav] at cr crk
      by_cases hc : c = 0
      · subst hc
        cases hv with
        | @steady L h1 h2 h3 =>
          have hLl := h3.1
          have hLb := h3.bd hr
          have hLne : ¬ L = [] := fun e => by rw [e] at hLl; simp at hLl; omega
          have c1 := w_IsRank r hr (intL L) (by simp [intL]; omega)
          rw [← natsA_int L hLne, hav, h3.isRank hr] at c1
          have c2 := l_same (intL L) (intL L) (by simp [intL]; omega) (by simp [intL]; omega)
          rw [← natsA_int L hLne] at c2
          simp at c2
          rw [ranksF_some h3] at crk
          simp [h5, h6, h11, e5, e6]
          refine cr.use ?_
          simp [h5, h6, h11, e5, e6]
          refine crk.use ?_
          simp [h5, h6, h11, e5, e6]
          refine c2.use ?_
          simp [h5, h6, h11, e5, e6]
          refine c1.use ?_
          simp [h5, h6, h11, e5, e6]
          refine caw.use ?_
          simp
          exact finA_drop rfl
      · have hcI : ¬ (c : Int) = 0 := by omega
        simp [h5, h6, h11, e5, e6, hc, hcI]
        refine cr.use ?_
        simp [h5, h6, h11, e5, e6, hc, hcI]
        refine caw.use ?_
        simp
        exact finA_drop rfl
end Go.Proofs
