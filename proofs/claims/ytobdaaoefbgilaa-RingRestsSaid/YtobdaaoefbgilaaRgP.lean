/-
  Ring: walks of Play, the program's and the reference's.
-/
import Derived.Test.YtobdaaoefbgilaaG2
set_option linter.unusedSimpArgs false
set_option linter.unusedVariables false
set_option linter.unusedSectionVars false
namespace Go.Proofs
open Go Go.AH
set_option maxRecDepth 10000
set_option maxHeartbeats 4000000

theorem w_indexFuncO (l : List Int) (hl : l.length ≤ 4611686018427387904) (b : Nat) (f : AV) (p : Int → Bool) (H : AHeap) (e : ∀ off, cellsAt H b off = some ((l.map (AV.int .i64)).drop off)) (hp : ∀ x ∈ l, ACallV Try.prog f [.int .i64 x] H fun r h' => r = .bool (p x) ∧ h' = H) :
    ACalls Try.prog 72 [.osl b 0 l.length 1, f] H fun r h' => r = .int .i64 (idxI l p) ∧ h' = H := by
  refine acalls_of Try.func72 rfl Try.call72 (by kernel_rfl) (by show _ ≤ (19 : Nat); simp) ?_
  simp
  refine awp_loop_g (γ := Nat) (fun k t h => (k ≤ l.length) ∧ (∀ i (hi : i < l.length), i < k → p l[i] = false) ∧ t 0 = .osl b 0 l.length 1 ∧ t 1 = f ∧ t 7 = .int .i64 l.length ∧ t 8 = .int .i64 k ∧ h = H) (fun k => l.length - k) (0) (turnA_self (by simp)) ?_
  rintro k t hx ⟨hk, hno, h0, h1, h7, h8, ex⟩
  rw [ex]
  clear ex
  by_cases hlt : k < l.length
  · have hw : IntKind.i64.wrap ((k : Int) + 1) = (k : Int) + 1 := wrap_i64 (by omega) (by omega)
    simp [h0, h1, h7, h8, hlt, e]
    refine (hp _ (List.getElem_mem hlt)).use ?_
    simp
    refine condA_case ?_ ?_
    · intro hpk
      have h1' : l.any p = true := List.any_eq_true.2 ⟨l[k], List.getElem_mem hlt, hpk⟩
      have h2 : l.findIdx p = k := by
        rw [List.findIdx_eq hlt]
        exact ⟨hpk, fun i hi => hno i (by omega) hi⟩
      simp [h0, h1, h7, h8]
      refine finA_self ⟨?_, rfl⟩
      rw [idxI, if_pos h1', h2]
    · intro hpk
      simp [h0, h1, h7, h8]
      exact turnA_self ⟨k + 1, by omega, by omega, fun i hi hik => by
        by_cases e : i = k
        · subst e; exact hpk
        · exact hno i hi (by omega), by simp [h0, h1, h7, h8, hw]⟩
  · obtain rfl : k = l.length := by omega
    have h1' : l.any p = false := by
      rw [List.any_eq_false]
      intro x hx
      obtain ⟨i, hi, rfl⟩ := List.mem_iff_getElem.1 hx
      simp [hno i hi hi]
    simp [h0, h1, h7, h8]
    refine finA_self ⟨?_, rfl⟩
    rw [idxI, h1']; rfl
theorem w_containsFuncO (l : List Int) (hl : l.length ≤ 4611686018427387904) (b : Nat) (f : AV) (p : Int → Bool) (H : AHeap) (e : ∀ off, cellsAt H b off = some ((l.map (AV.int .i64)).drop off)) (hp : ∀ x ∈ l, ACallV Try.prog f [.int .i64 x] H fun r h' => r = .bool (p x) ∧ h' = H) :
    ACalls Try.prog 49 [.osl b 0 l.length 1, f] H fun r h' => r = .bool (anyI l p) ∧ h' = H := by
  refine acalls_of Try.func49 rfl Try.call49 (by kernel_rfl) (by show _ ≤ (9 : Nat); simp) ?_
  simp
  refine (w_indexFuncO l hl b f p H e hp).use ?_
  simp
  refine finA_self ⟨?_, rfl⟩
  by_cases h : l.any p = true
  · rw [idxI, anyI, if_pos h, h]; simp
  · have h' : l.any p = false := by simpa using h
    rw [idxI, anyI, if_neg h, h']; simp
theorem w_containsFuncN (f : AV) (H : AHeap) : ACalls Try.prog 49 [.nilsl, f] H fun r h' => r = .bool false ∧ h' = H := by
  have c : ACalls Try.prog 72 [.nilsl, f] H fun r h' => r = .int .i64 (-1) ∧ h' = H := by
    refine acalls_of Try.func72 rfl Try.call72 (by kernel_rfl) (by show _ ≤ (19 : Nat); simp) ?_
    simp
    refine awp_loop_g (γ := Nat) (fun k t h => t 0 = .nilsl ∧ t 1 = f ∧ t 7 = .int .i64 0 ∧ t 8 = .int .i64 0 ∧ h = H) (fun k => 0) (0) (turnA_self (by simp)) ?_
    rintro k t hx ⟨h0, h1, h7, h8, ex⟩
    rw [ex]
    simp [h0, h1, h7, h8]
    exact finA_self ⟨rfl, rfl⟩
  refine acalls_of Try.func49 rfl Try.call49 (by kernel_rfl) (by show _ ≤ (9 : Nat); simp) ?_
  simp
  refine c.use ?_
  simp
  exact finA_self ⟨rfl, rfl⟩

theorem w_Play1 (x : Int) : Pure Try.prog 50 [.int .i64 x] (.bool (decide (x < 0))) := by
  refine pure_of (acalls_of Try.func50 rfl Try.call50 (by kernel_rfl) (by show _ ≤ (5 : Nat); simp) ?_)
  simp
  exact finA_drop rfl

/-- Where choices lead; none: no machine is ready. -/
def playR (r : Rul) : List Nat → List Int → Option (List Nat)
  | l, [] => some l
  | l, x :: xs => if readyF r l = [] then none else playR r (stepF r l [(readyF r l).getD (x.toNat % (readyF r l).length) 0]) xs
/-- What Play hands back. -/
def playO (r : Rul) (c m : List Int) : List Int × Int :=
  if ¬ confE r c = 0 then ([], confE r c) else if m.any (fun x => decide (x < 0)) = true then ([], 1) else match playR r (natI c) m with
    | none => ([], 81)
    | some l => (l.map fun x : Nat => (x : Int), 0)
theorem readyF_ok {r : Rul} {l : List Nat} : ∀ i ∈ readyF r l, i < r.m ∧ 0 ≤ takesF r l i := by
  intro i hi
  have := List.mem_filter.1 hi
  exact ⟨List.mem_range.1 this.1, by simpa using this.2⟩
theorem pick_ok {r : Rul} {l : List Nat} (h : ¬ readyF r l = []) (k : Nat) : ∃ hk : k % (readyF r l).length < (readyF r l).length, (readyF r l).getD (k % (readyF r l).length) 0 = (readyF r l)[k % (readyF r l).length] := by
  have hp : 0 < (readyF r l).length := List.length_pos_iff.2 h
  exact ⟨Nat.mod_lt _ hp, by simp [Nat.mod_lt _ hp]⟩
structure PQ where
  k : Nat
  l : List Nat
theorem readyF_len (r : Rul) (l : List Nat) : (readyF r l).length ≤ r.m := by
  unfold readyF
  exact Nat.le_trans (List.length_filter_le _ _) (by simp)

theorem w_Play (r : Rul) (hr : r.ok) (c : List Int) (hc : c.length ≤ 1000000) (m : List Int) (hm : m.length ≤ 1000000) (o : Option Nat) (ho : o = none ↔ m = []) :
    ACalls Try.prog 14 [r.av, listI c, ownV o m.length 1] (AHeap.empty.updO o (m.map (.int .i64))) fun a h => a = .tup [listI (playO r c m).1, .int .i64 (playO r c m).2] ∧ h = AHeap.empty.updO o (m.map (.int .i64)) := by
  refine acalls_of Try.func14 rfl Try.call14 (by kernel_rfl) (by show _ ≤ (54 : Nat); simp) ?_
  have q1 := hr.m2; have q2 := hr.m6
  have cc := w_configOf r hr c hc
  have c6 := confL_len hr c
  have htk : (confL r c).take 6 = confL r c := List.take_of_length_le (by omega)
  have hz : splice [.int .u8 0, .int .u8 0, .int .u8 0, .int .u8 0, .int .u8 0, .int .u8 0] 0 (confL r c) = confL r c := splice_all (by rw [c6]; rfl)
  rw [confA_eq] at cc
  simp only [Rul.av] at cc ⊢
  cases o with
  | none =>
    have hm0 := ho.1 rfl
    subst hm0
    simp
    intro b3 hb3
    simp
    refine cc.use ?_
    simp
    intro b8 hb8
    simp at hb8
    simp [hb8, c6, hz]
    by_cases he : confE r c = 0
    · have hcfg := conf_cfg he
      have hcl : confL r c = cfgL (natI c) := by unfold confL; rw [if_pos he]
      have h6 : (cfgL (natI c)).length = 6 := cfgL6 hr he
      have htk2 : (cfgL (natI c)).take 6 = cfgL (natI c) := List.take_of_length_le (by omega)
      have c2 := w_listed r hr (natI c) hcfg
      simp only [Rul.av, cfgA] at c2
      simp [he]
      refine (w_containsFuncN _ _).use ?_
      simp
      refine awp_loop_g (γ := Nat) (fun k t h => t 3 = .ptr b3 0 ∧ t 8 = .ptr b8 0 ∧ t 24 = .nilsl ∧ t 25 = .int .i64 0 ∧ t 26 = .int .i64 0 ∧ h = (AHeap.empty.upd b3 (.cells [.int .i64 r.m, .int .i64 r.c, rowsA r.next])).upd b8 (.cells (confL r c))) (fun k => 0) (0) (turnA_self (by simp)) ?_
      rintro k t h ⟨h3, h8, h24, h25, h26, rfl⟩
      simp [h3, h8, h24, h25, h26, hb8, hcl, h6, htk2]
      refine c2.use ?_
      simp [h3, h8, h24, h25, h26]
      refine finA_drop ⟨?_, rfl⟩
      have hp : playO r c [] = ((natI c).map fun x : Nat => (x : Int), 0) := by unfold playO; rw [if_neg (by simpa using he)]; simp [playR]
      have hne : ¬ natI c = [] := fun e => by have := hcfg.len; rw [e] at this; simp at this; omega
      rw [hp, nats_ints, listI_ne (by simpa using hne)]
    · have hp : playO r c [] = ([], confE r c) := by unfold playO; rw [if_pos he]
      simp [he]
      refine finA_drop ⟨?_, rfl⟩
      rw [hp]; rfl
  | some bm =>
    have hm0 : ¬ m = [] := fun e => by have := ho.2 e; cases this
    obtain ⟨B, hB⟩ : ∃ B, B = AHeap.empty.upd bm (.cells (m.map (.int .i64))) := ⟨_, rfl⟩
    have eB : ∀ off, cellsAt B bm off = some ((m.map (AV.int .i64)).drop off) := by intro off; rw [hB]; simp
    simp only [ownV_some, updO_some]
    rw [← hB]
    clear hB
    simp
    intro b3 hb3
    have n3 := ne_fresh (eB 0) hb3
    simp
    refine cc.use ?_
    simp
    intro b8 hb8
    obtain ⟨n38, n83, hf8⟩ : ¬ b8 = b3 ∧ ¬ b3 = b8 ∧ Fresh B b8 := by simpa using hb8
    have n8 := ne_fresh (eB 0) hf8
    simp [n38, n83, c6, hz]
    have drop : ∀ cs : List AV, Drop ((B.upd b3 (.cells [.int .i64 r.m, .int .i64 r.c, rowsA r.next])).upd b8 (.cells cs)) B := fun cs => Drop.new (Drop.new (Drop.refl _) hb3) hf8
    by_cases he : confE r c = 0
    · have hcfg := conf_cfg he
      have hcl : confL r c = cfgL (natI c) := by unfold confL; rw [if_pos he]
      simp [he]
      refine (w_containsFuncO m (by omega) bm (.fn (.func 50) [] []) (fun x => decide (x < 0)) _ (by intro off; simp [n3, n8, eB]) (fun x _ => PureV.of (w_Play1 x) _)).use ?_
      by_cases ha : m.any (fun x => decide (x < 0)) = true
      · have ha' : anyI m (fun x => decide (x < 0)) = true := ha
        have hp : playO r c m = ([], 1) := by unfold playO; rw [if_neg (by simpa using he), if_pos ha]
        simp [ha']
        refine finA_same B (drop _) ⟨?_, rfl⟩
        rw [hp]; rfl
      · have ha' : anyI m (fun x => decide (x < 0)) = false := by simpa [anyI] using ha
        have hpos : ∀ x ∈ m, 0 ≤ x := fun x hx => by
          have := List.any_eq_false.1 (by simpa using ha : m.any (fun x => decide (x < 0)) = false) x hx
          simp at this
          omega
        have hp0 : playO r c m = match playR r (natI c) m with | none => ([], 81) | some l => (l.map fun x : Nat => (x : Int), 0) := by unfold playO; rw [if_neg (by simpa using he), if_neg ha]
        simp [ha']
        refine awp_loop_g (γ := PQ) (fun q t h => (q.k ≤ m.length) ∧ (Cfg r q.l) ∧ (playR r (natI c) m = playR r q.l (m.drop q.k)) ∧ t 3 = .ptr b3 0 ∧ t 8 = .ptr b8 0 ∧ t 24 = .osl bm 0 m.length 1 ∧ t 25 = .int .i64 m.length ∧ t 26 = .int .i64 q.k ∧ h = (B.upd b3 (.cells [.int .i64 r.m, .int .i64 r.c, rowsA r.next])).upd b8 (.cells (cfgL q.l))) (fun q => m.length - q.k) (⟨0, natI c⟩) (turnA_self (by simp [hcl, hcfg])) ?_
        rintro q t h ⟨hk, hcf, hpl, h3, h8, h24, h25, h26, rfl⟩
        obtain ⟨k, l⟩ := q
        simp only at h3 h8 h24 h25 h26 hk hcf hpl
        have l6 : (cfgL l).length = 6 := cfgL_len (by have := hcf.len; omega)
        have ltk : (cfgL l).take 6 = cfgL l := List.take_of_length_le (by omega)
        by_cases hlt : k < m.length
        · have hwk : IntKind.i64.wrap ((k : Int) + 1) = (k : Int) + 1 := wrap_i64 (by omega) (by omega)
          rw [List.drop_eq_getElem_cons hlt] at hpl
          obtain ⟨x, hx⟩ : ∃ x, x = m[k] := ⟨_, rfl⟩
          have hx' : m[k]'hlt = x := hx.symm
          have hx0 : 0 ≤ x := hpos x (by rw [hx]; exact List.getElem_mem hlt)
          rw [hx'] at hpl
          have c3 := w_ready r hr l hcf
          simp only [Rul.av, cfgA] at c3
          simp [h3, h8, h24, h25, h26, hlt, eB, n3, n8, n38, n83, l6, ltk, hx']
          refine c3.use ?_
          by_cases hr0 : readyF r l = []
          · rw [playR, if_pos hr0] at hpl
            simp [h3, h8, h24, h25, h26, hr0, listA]
            refine finA_same B (drop _) ⟨?_, rfl⟩
            rw [hp0, hpl]; rfl
          · obtain ⟨N, hN⟩ : ∃ N, N = (readyF r l).length := ⟨_, rfl⟩
            obtain ⟨n, rfl⟩ : ∃ n : Nat, x = n := ⟨x.toNat, by omega⟩
            obtain ⟨hk2, hpk⟩ := pick_ok hr0 n
            obtain ⟨j, hj⟩ : ∃ j, j = n % (readyF r l).length := ⟨_, rfl⟩
            have hNl := readyF_len r l
            rw [playR, if_neg hr0, Int.toNat_natCast, hpk] at hpl
            obtain ⟨i, hi⟩ : ∃ i, i = (readyF r l)[n % (readyF r l).length]'hk2 := ⟨_, rfl⟩
            have him := readyF_ok (r := r) (l := l) i (by rw [hi]; exact List.getElem_mem _)
            have hms : ∀ i' ∈ [i], i' < r.m ∧ 0 ≤ takesF r l i' := by intro i' hi'; simp at hi'; subst hi'; exact him
            rw [← hi] at hpl
            have c4 := w_step r hr l hcf [i] hms (by simp)
            simp only [Rul.av, cfgA] at c4
            have cf' := step_cfg hr hcf hms
            have s6 : (cfgL (stepF r l [i])).length = 6 := cfgL_len (by have := cf'.len; omega)
            have sz : splice (cfgL l) 0 (cfgL (stepF r l [i])) = cfgL (stepF r l [i]) := splice_all (by rw [s6, l6])
            have hNn : 0 < (readyF r l).length := List.length_pos_iff.2 hr0
            have hN0 : ¬ (readyF r l).length = 0 := by omega
            have hNI : ¬ ((readyF r l).length : Int) = 0 := by omega
            have v1 : (n : Int).tmod ((readyF r l).length : Int) = (j : Int) := by rw [Int.tmod_eq_emod_of_nonneg (by omega), hj]; rfl
            have hjl : j < (readyF r l).length := by rw [hj]; exact hk2
            have v2 : IntKind.i64.wrap ((j : Int) + 1) = (j : Int) + 1 := wrap_i64 (by omega) (by omega)
            have hij : (readyF r l)[j]'hjl = i := by subst hj; exact hi.symm
            have hdt : List.take 1 (List.drop j ((readyF r l).map fun x : Nat => AV.int .i64 (x : Int))) = [AV.int .i64 (i : Int)] := by
              rw [← List.map_drop, ← List.map_take, List.drop_eq_getElem_cons hjl, hij]; simp
            have c4' : AH.Pure Try.prog 52 [.agg [.int .i64 r.m, .int .i64 r.c, rowsA r.next], .agg (cfgL l), .sl 1 [.int .i64 (i : Int)]] (.agg (cfgL (stepF r l [i]))) := c4
            simp [h3, h8, h24, h25, h26, hr0, listA, natsA, hNI, hN0]
            refine awp_draw_text (by kernel_rfl) [49] [(.fn (.func 52) [] [], [.agg [.int .i64 r.m, .int .i64 r.c, rowsA r.next], .agg (cfgL l), .sl 1 [.int .i64 (i : Int)]], .agg (cfgL (stepF r l [i])))] (by kernel_rfl) (by kernel_rfl) (by simp; exact PureV.of c4') ?_
            have hj1 : j + 1 ≤ (readyF r l).length := by omega
            have hjI1 : (j : Int) + 1 ≤ ((readyF r l).length : Int) := by omega
            have hsub : ((j : Int) + 1 - (j : Int)).toNat = 1 := by omega
            have hjl0 : (j : Int) ≤ (j : Int) + 1 := by omega
            have hjn : ((j : Int) + 1).toNat = j + 1 := by omega
            simp [h3, h8, h24, h25, h26, eB, n3, n8, n38, n83, l6, ltk, hN0, hNI, v1, v2, hj1, hjI1, hsub, hjl0, hjn, hdt, gamGet_here, s6, sz]
            exact turnA_self ⟨⟨k + 1, stepF r l [i]⟩, by simp only; omega, by simp only; omega, cf', hpl, by simp [h3, h8, h24, h25, h26, hwk]⟩
        · obtain rfl : k = m.length := by omega
          rw [List.drop_length, playR] at hpl
          have c2 := w_listed r hr l hcf
          simp only [Rul.av, cfgA] at c2
          simp [h3, h8, h24, h25, h26, n38, n83, l6, ltk]
          refine c2.use ?_
          simp [h3, h8, h24, h25, h26]
          refine finA_same B (drop _) ⟨?_, rfl⟩
          have hne : ¬ l = [] := fun e => by have := hcf.len; rw [e] at this; simp at this; omega
          rw [hp0, hpl]
          simp only
          rw [nats_ints, listI_ne (by simpa using hne)]
    · have hp : playO r c m = ([], confE r c) := by unfold playO; rw [if_pos he]
      simp [he]
      refine finA_same B (drop _) ⟨?_, rfl⟩
      rw [hp]; rfl

theorem conf_listP {r : Rul} (hr : r.ok) {l : List Int} (h : confE r l = 0) : listI l = natsA (natI l) := by
  have hc := conf_cfg h
  have hne : ¬ l = [] := fun e => by subst e; have := hc.len; have := hr.m2; simp at *; omega
  rw [listI_ne hne, nats_ints]
  congr 1
  unfold natI
  rw [List.map_map]
  refine (List.map_id l).symm.trans (List.map_congr_left fun x hx => ?_)
  unfold confE at h
  split at h
  · cases h
  · split at h
    · cases h
    · next hb =>
      have hb' : l.any (badC r.c) = false := by simpa using hb
      have := List.any_eq_false.1 hb' x hx
      simp only [badC, Bool.or_eq_true, decide_eq_true_eq, not_or] at this
      simp only [id, Function.comp_apply]
      omega

theorem r_Play (r : Rul) (hr : r.ok) (c : List Int) (he : confE r c = 0) (m : List Int) (hm : m.length ≤ 1000000) (o : Option Nat) (ho : o = none ↔ m = []) :
    ACalls Try.prog 16 [r.av, listI c, ownV o m.length 1] (AHeap.empty.updO o (m.map (.int .i64))) fun a h => a = .tup [listI (playO r c m).1, .int .i64 (playO r c m).2] ∧ h = AHeap.empty.updO o (m.map (.int .i64)) := by
  refine acalls_of Try.func16 rfl Try.call16 (by kernel_rfl) (by show _ ≤ (49 : Nat); simp) ?_
  have q1 := hr.m2; have q2 := hr.m6
  have hcfg := conf_cfg he
  have hlist : ∀ l : List Nat, Cfg r l → natsA l = listI (l.map fun x : Nat => (x : Int)) := fun l hl => by
    have hne : ¬ l = [] := fun e => by have := hl.len; rw [e] at this; simp at this; omega
    rw [nats_ints, listI_ne (by simpa using hne)]
  have hcl := conf_listP hr he
  rw [hcl]
  simp only [Rul.av]
  cases o with
  | none =>
    have hm0 := ho.1 rfl
    subst hm0
    have hp : playO r c [] = ((natI c).map fun x : Nat => (x : Int), 0) := by unfold playO; rw [if_neg (by simpa using he)]; simp [playR]
    simp
    intro b3 hb3
    simp
    refine awp_loop_g (γ := Nat) (fun k t h => t 1 = natsA (natI c) ∧ t 2 = .nilsl ∧ t 3 = .ptr b3 0 ∧ t 8 = .int .i64 0 ∧ h = AHeap.empty.upd b3 (.cells [.int .i64 r.m, .int .i64 r.c, rowsA r.next])) (fun k => 0) (0) (turnA_self (by simp)) ?_
    rintro k t h ⟨h1, h2, h3, h8, rfl⟩
    simp [h1, h2, h3, h8]
    refine awp_loop_g (γ := Nat) (fun k t h => t 1 = natsA (natI c) ∧ t 2 = .nilsl ∧ t 3 = .ptr b3 0 ∧ t 9 = .int .i64 0 ∧ h = AHeap.empty.upd b3 (.cells [.int .i64 r.m, .int .i64 r.c, rowsA r.next])) (fun k => 0) (0) (turnA_self (by simp [h1, h2, h3, h8])) ?_
    rintro k t h ⟨h1, h2, h3, h9, rfl⟩
    simp [h1, h2, h3, h9]
    refine finA_drop ⟨?_, rfl⟩
    rw [hp, hlist _ hcfg]
  | some bm =>
    have hm0 : ¬ m = [] := fun e => by have := ho.2 e; cases this
    obtain ⟨B, hB⟩ : ∃ B, B = AHeap.empty.upd bm (.cells (m.map (.int .i64))) := ⟨_, rfl⟩
    have eB : ∀ off, cellsAt B bm off = some ((m.map (AV.int .i64)).drop off) := by intro off; rw [hB]; simp
    simp only [ownV_some, updO_some]
    rw [← hB]
    clear hB
    simp
    intro b3 hb3
    have n3 := ne_fresh (eB 0) hb3
    have drop : Drop (B.upd b3 (.cells [.int .i64 r.m, .int .i64 r.c, rowsA r.next])) B := Drop.new (Drop.refl _) hb3
    simp
    refine awp_loop_g (γ := Nat) (fun k t h => (k ≤ m.length) ∧ (∀ j (hj : j < m.length), j < k → 0 ≤ m[j]) ∧ t 1 = natsA (natI c) ∧ t 2 = .osl bm 0 m.length 1 ∧ t 3 = .ptr b3 0 ∧ t 8 = .int .i64 k ∧ h = B.upd b3 (.cells [.int .i64 r.m, .int .i64 r.c, rowsA r.next])) (fun k => m.length - k) (0) (turnA_self (by simp)) ?_
    rintro k t hx ⟨hk, hpos, h1, h2, h3, h8, ex⟩
    rw [ex]
    clear ex
    by_cases hlt : k < m.length
    · have hwk : IntKind.i64.wrap ((k : Int) + 1) = (k : Int) + 1 := wrap_i64 (by omega) (by omega)
      by_cases hneg : m[k] < 0
      · have ha : m.any (fun x => decide (x < 0)) = true := List.any_eq_true.2 ⟨m[k], List.getElem_mem hlt, by simpa using hneg⟩
        have hp : playO r c m = ([], 1) := by unfold playO; rw [if_neg (by simpa using he), if_pos ha]
        simp [h1, h2, h3, h8, hlt, eB, n3, hneg]
        refine finA_same B drop ⟨?_, rfl⟩
        rw [hp]; rfl
      · simp [h1, h2, h3, h8, hlt, eB, n3, hneg]
        refine turnA_self ⟨k + 1, by omega, by omega, fun j hj hjk => ?_, by simp [h1, h2, h3, h8, hwk]⟩
        by_cases e : j = k
        · subst e; omega
        · exact hpos j hj (by omega)
    · obtain rfl : k = m.length := by omega
      have ha : ¬ m.any (fun x => decide (x < 0)) = true := by
        rw [List.any_eq_true]
        rintro ⟨x, hx, h2⟩
        obtain ⟨j, hj, rfl⟩ := List.mem_iff_getElem.1 hx
        have := hpos j hj hj
        simp at h2
        omega
      have hp0 : playO r c m = match playR r (natI c) m with | none => ([], 81) | some l => (l.map fun x : Nat => (x : Int), 0) := by unfold playO; rw [if_neg (by simpa using he), if_neg ha]
      simp [h1, h2, h3, h8]
      refine awp_loop_g (γ := PQ) (fun q t h => (q.k ≤ m.length) ∧ (Cfg r q.l) ∧ (playR r (natI c) m = playR r q.l (m.drop q.k)) ∧ t 1 = natsA q.l ∧ t 2 = .osl bm 0 m.length 1 ∧ t 3 = .ptr b3 0 ∧ t 9 = .int .i64 q.k ∧ h = B.upd b3 (.cells [.int .i64 r.m, .int .i64 r.c, rowsA r.next])) (fun q => m.length - q.k) (⟨0, natI c⟩) (turnA_self (by simp [h1, h2, h3, h8, hcfg])) ?_
      rintro q t hx ⟨hk, hcf, hpl, h1, h2, h3, h9, ex⟩
      rw [ex]
      clear ex
      obtain ⟨k, l⟩ := q
      simp only at h1 h2 h3 h9 hk hcf hpl
      by_cases hlt : k < m.length
      · have hwk : IntKind.i64.wrap ((k : Int) + 1) = (k : Int) + 1 := wrap_i64 (by omega) (by omega)
        rw [List.drop_eq_getElem_cons hlt] at hpl
        have hx0 : 0 ≤ m[k] := hpos k hlt hlt
        obtain ⟨x, hx⟩ : ∃ x, x = m[k] := ⟨_, rfl⟩
        have hx' : m[k]'hlt = x := hx.symm
        rw [hx'] at hpl hx0
        have c3 := r_Ready r hr l hcf
        simp only [Rul.av] at c3
        simp [h1, h2, h3, h9, hlt, eB, n3]
        refine c3.use ?_
        by_cases hr0 : readyF r l = []
        · rw [playR, if_pos hr0] at hpl
          simp [h1, h2, h3, h9, hr0, listA]
          refine finA_same B drop ⟨?_, rfl⟩
          rw [hp0, hpl]; rfl
        · obtain ⟨n, rfl⟩ : ∃ n : Nat, x = n := ⟨x.toNat, by omega⟩
          obtain ⟨hk2, hpk⟩ := pick_ok hr0 n
          obtain ⟨j, hj⟩ : ∃ j, j = n % (readyF r l).length := ⟨_, rfl⟩
          have hNl := readyF_len r l
          rw [playR, if_neg hr0, Int.toNat_natCast, hpk] at hpl
          obtain ⟨i, hi⟩ : ∃ i, i = (readyF r l)[n % (readyF r l).length]'hk2 := ⟨_, rfl⟩
          have him := readyF_ok (r := r) (l := l) i (by rw [hi]; exact List.getElem_mem _)
          have hms : ∀ i' ∈ [i], i' < r.m ∧ 0 ≤ takesF r l i' := by intro i' hi'; simp at hi'; subst hi'; exact him
          rw [← hi] at hpl
          have c4 := r_Step r hr l hcf [i] hms (by simp)
          simp only [Rul.av] at c4
          have cf' := step_cfg hr hcf hms
          have hNn : 0 < (readyF r l).length := List.length_pos_iff.2 hr0
          have hN0 : ¬ (readyF r l).length = 0 := by omega
          have hNI : ¬ ((readyF r l).length : Int) = 0 := by omega
          have v1 : (n : Int).tmod ((readyF r l).length : Int) = (j : Int) := by rw [Int.tmod_eq_emod_of_nonneg (by omega), hj]; rfl
          have hjl : j < (readyF r l).length := by rw [hj]; exact hk2
          have hjlI : (j : Int) < ((readyF r l).length : Int) := by omega
          have hij : (readyF r l)[j]'hjl = i := by subst hj; exact hi.symm
          have hnr : natsA (readyF r l) = .sl (readyF r l).length ((readyF r l).map fun x : Nat => AV.int .i64 (x : Int)) := rfl
          simp [h1, h2, h3, h9, hr0, listA, hnr, hNI, hN0]
          refine awp_draw_text (by kernel_rfl) [] [] (by kernel_rfl) (by kernel_rfl) (by simp) ?_
          simp [h1, h2, h3, h9, hlt, eB, n3, hx', hN0, hNI, v1, hjl, hjlI, hij]
          intro b1 hb1
          simp
          refine ACalls.turn 1 (B.upd b3 (.cells [.int .i64 r.m, .int .i64 r.c, rowsA r.next])) ((Drop.new (Drop.refl _) hb1).sub 1) ?_
          simp [hb1]
          refine c4.use ?_
          simp [h1, h2, h3, h9]
          exact turnA_self ⟨⟨k + 1, stepF r l [i]⟩, by simp only; omega, by simp only; omega, cf', hpl, by simp [h1, h2, h3, h9, hwk]⟩
      · obtain rfl : k = m.length := by omega
        rw [List.drop_length, playR] at hpl
        simp [h1, h2, h3, h9]
        refine finA_same B drop ⟨?_, rfl⟩
        rw [hp0, hpl]
        simp only
        rw [hlist _ hcf]
end Go.Proofs
