/-
  The law FlowJudges.
-/
import Derived.Test.YtpnikgfpcgaboaaFlR5
import Derived.Test.YtpnikgfpcgaboaaFlW8
import Derived.Test.YtpnikgfpcgaboaaFlAwk
set_option linter.unusedSimpArgs false
set_option linter.unusedVariables false
set_option linter.unusedSectionVars false
namespace Go.Proofs
open Go Go.AH
set_option maxRecDepth 10000
set_option maxHeartbeats 4000000

structure JX where
  k : Nat
  fs : List Int
structure JS where
  i : Nat
  o : Option Nat
  fs : List Int
theorem intC_own {o : Option Nat} {fs : List Int} (h : o = none ↔ fs = []) : intL fs = match o with | none => .nilsl | some _ => .sl fs.length (intC fs) := by
  cases o with
  | none => unfold intL; rw [if_pos (h.1 rfl)]
  | some b => unfold intL; rw [if_neg (fun e => by cases h.2 e)]
/-- A row of one's own in a slot is turned read-only. -/
theorem turnA_own {K : AF → AHeap → Prop} {t : AF} {h : AHeap} (d : Nat) (o : Option Nat) (fs : List Int) (ho : o = none ↔ fs = []) (hf : FreshO h o) (hd : t d = ownV o fs.length 1) (q : K (t.put d (intL fs)) h) : turnA K t (h.updO o (intC fs)) := by
  rw [intC_own ho] at q
  cases o with
  | none =>
    have e : t.put d .nilsl = t := by
      funext i
      unfold AF.put
      by_cases e : i = d
      · rw [if_pos e, e, hd]; rfl
      · rw [if_neg e]
    have q' : K (t.put d .nilsl) h := q
    rw [e] at q'
    exact turnA_self q'
  | some b =>
    have hb : h b = none := hf
    have q' : K (t.put d (.sl fs.length (intC fs))) h := q
    rw [updO_some]
    refine turnA_row d b (n := fs.length) (es := 1) (cs := intC fs) hd (by simp) (by simp) intC_frozen ?_
    have : (h.upd b (.cells (intC fs))).del b = h := by
      funext x
      unfold AHeap.del AHeap.upd
      by_cases e : x = b
      · simp [e, hb]
      · simp [e]
    rw [this]
    exact q'
theorem appendA_nil {h : AHeap} {k es : Nat} {xs : List AV} {K : AV → AHeap → Prop} (hk : k < 1073741824) (q : ∀ o : Option Nat, (o = none ↔ k = 0) → FreshO h o → K (ownV o k es) (h.updO o xs)) : appendA h es .nilsl k xs K := by
  rw [appendA_nilsl]
  refine ⟨fun e => q none ⟨fun _ => e, fun _ => rfl⟩ trivial, fun e => ⟨hk, fun b hb => ?_⟩⟩
  exact q (some b) ⟨(fun h => nomatch h), fun h => absurd h e⟩ hb
theorem isFlowA_tup (n : Int) (l : List RArc) (s t : Int) (fs : List Int) : ∃ w b, isFlowA n l s t fs = .tup [.int .i64 w, .bool b] := by
  unfold isFlowA
  split
  · exact ⟨_, _, rfl⟩
  · exact ⟨_, _, rfl⟩
theorem w_FlowJudges (x : RNet) (hs : x.arcs.length ≤ 4611686018427387904) (a b : Int) (ls : List Int) (hls : ls.length ≤ 18000000000000) : Pure Try.prog 5 [x.av, .agg [.int .i64 a, .int .i64 b], intsA ls] (.bool true) := by
  refine pure_of (acalls_of Try.func5 rfl Try.call5 (by kernel_rfl) (by show _ ≤ (207 : Nat); simp) ?_)
  have ct := w_tame x hs 6 8 (by omega) (by omega)
  have hP2 := tameP_le x.n 6 (by omega)
  obtain ⟨P, hP⟩ : ∃ P, P = tameP x.n 6 := ⟨_, rfl⟩
  rw [← hP] at ct hP2
  have O := tame_ok (P := P) (by omega) x.arcs 8 (by omega)
  obtain ⟨R, hR⟩ : ∃ R, R = tameArcs P x.arcs 8 := ⟨_, rfl⟩
  rw [← hR] at ct O
  have hRl : R.length ≤ 200 := O.len
  obtain ⟨s, T, hs2, hT2, hst, ce⟩ := w_ends P (by omega) a b
  have cn := l_net P R (by omega)
  have cm := fun h => w_MostO P R O s T hs2 hT2 hst h
  have cf := fun fs (h : fs.length ≤ 1000000) => w_IsFlow P R (by omega) s T fs h
  have cr := fun fs (h : fs.length ≤ 1000000) => l_IsFlow P R (by omega) s T (ArcsV.l R) fs h
  have cca := fun set (h : set.length ≤ 1000000) => w_Capacity P R (by omega) set h
  have ccr := fun set (h : set.length ≤ 1000000) => l_RCapacity P R hRl (fun x hx => by have := arcOk_iff.1 (O.ok x hx); omega) (ArcsV.l R) set h
  have cri := fun set (h : set.length ≤ 1000000) => l_Rising P set h
  have hcap := fun set => (cap_eq set R 0 (fun x hx => by have := arcOk_iff.1 (O.ok x hx); omega) (by omega) (by omega)).1
  have c0 := chk_of_ok O
  unfold netV at ct cn
  unfold netV at cm
  unfold netV at cf
  unfold netV at cca
  obtain ⟨V, hV⟩ : ∃ V, V = arcsL R := ⟨_, rfl⟩
  have hV1 : V.one = true := by rw [hV]; simp
  have hV2 : V.fit = true := by rw [hV]; simp
  have hV3 : V.cells = [V] := by rw [hV]; simp
  have hV4 : ∀ h, lenA Try.prog h 22 V = some (.int .i64 (R.length : Int)) := fun h => by rw [hV]; exact (ArcsV.l R).len22 h
  have hV5 : R ≠ [] → V = .sl R.length (arcC R) := fun h => by rw [hV]; exact (ArcsV.l R).sl h
  rw [← hV] at ct cn
  simp only [← hV, keep_eq] at cm cf cr cca ccr
  have hx : x.av = .agg [.int .i64 x.n, arcsA x.arcs] := rfl
  rw [hx] at ct ⊢
  simp
  intro b3 hb3
  simp [arcsA]
  try simp [arcsA] at ct
  intro b4 hb4
  simp at hb4
  simp [hb4]
  refine ct.use ?_
  simp
  intro b7 hb7
  simp at hb7
  simp [hb7, hb4, hV1, hV2, hV3]
  refine ce.use ?_
  have hSs : intsA ls = .sl ls.length (intC ls) := rfl
  have hSl : ∀ h, lenA Try.prog h 41 (intsA ls) = some (.int .i64 (ls.length : Int)) := fun h => by unfold intsA; simp
  obtain ⟨m, hm⟩ : ∃ m, m = min ls.length 10 := ⟨_, rfl⟩
  have hmI : (if (10 : Int) < (ls.length : Int) then (10 : Int) else (ls.length : Int)) = (m : Int) := by split <;> omega
  have hml : m ≤ ls.length := by omega
  have hmlI : (m : Int) ≤ (ls.length : Int) := by omega
  have hm30 : m < 1073741824 := by omega
  simp [hb7, hb4, hV1, hV2, hV3, hSs, hmI, hml, hmlI, -appendA_nilsl]
  have htk : (intC ls).take m = intC (ls.take m) := by simp [intC, List.map_take]
  have hlt' : (ls.take m).length = m := by simp; omega
  rw [htk]
  obtain ⟨H0, hH0⟩ : ∃ H0, H0 = ((AHeap.empty.upd b3 (.cells [.int .i64 x.n, .sl x.arcs.length (arcC x.arcs)])).upd b4 (.cells [.int .i64 a, .int .i64 b])).upd b7 (.cells [.int .i64 P, V]) := ⟨_, rfl⟩
  have d7 : ∀ off, cellsAt H0 b7 off = some (([.int .i64 P, V] : List AV).drop off) := fun off => by rw [hH0]; simp
  have d4 : ∀ off, cellsAt H0 b4 off = some (([.int .i64 a, .int .i64 b] : List AV).drop off) := fun off => by rw [hH0]; simp [hb7]
  rw [← hH0]
  refine appendA_nil hm30 fun o ho hf => ?_
  have ho2 : o = none ↔ ls.take m = [] := by rw [ho, ← List.length_eq_zero_iff, hlt']
  simp
  refine awp_loop_g (γ := JX) (fun y t h => (y.k ≤ 3) ∧ (y.fs.length ≤ 1000000) ∧ t 2 = intsA ls ∧ t 4 = .ptr b4 0 ∧ t 7 = .ptr b7 0 ∧ t 8 = .int .i64 s ∧ t 9 = .int .i64 T ∧ t 10 = intL y.fs ∧ t 11 = .int .i64 y.k ∧ h = H0) (fun y => 3 - y.k) (⟨0, ls.take m⟩) (turnA_own 10 o (ls.take m) ho2 hf (by simp [hlt']) ⟨by simp, by simp only; omega, by simp [hSs]⟩) ?_
  rintro y t hx ⟨hk, hfs, h2, h4, h7, h8, h9, h10, h11, ex⟩
  rw [ex]
  clear ex
  obtain ⟨k, fs⟩ := y
  simp only at h2 h4 h7 h8 h9 h10 h11 hk hfs
  by_cases hk3 : k < 3
  · have hk3I : (k : Int) < 3 := by omega
    have hwk : IntKind.i64.wrap ((k : Int) + 1) = (k : Int) + 1 := wrap_i64 (by omega) (by omega)
    have cf1 := cf fs hfs
    have cr1 := cr fs hfs
    obtain ⟨w, bw, hw⟩ := isFlowA_tup P R s T fs
    rw [hw] at cf1 cr1
    simp [h2, h4, h7, h8, h9, h10, h11, hk3, hk3I, d7, hV1, hV2, hV3]
    refine cn.use ?_
    simp [h2, h4, h7, h8, h9, h10, h11]
    refine cf1.use ?_
    simp [h2, h4, h7, h8, h9, h10, h11, d7, hV1, hV2, hV3]
    refine cr1.use ?_
    simp [h2, h4, h7, h8, h9, h10, h11]
    by_cases hk0 : k = 0
    · subst hk0
      simp [h2, h4, h7, h8, h9, h10, h11]
      refine awp_loop_g (γ := JS) (fun y t h => (y.i ≤ R.length) ∧ (y.fs.length = y.i) ∧ (y.o = none ↔ y.fs = []) ∧ (FreshO H0 y.o) ∧ t 2 = intsA ls ∧ t 4 = .ptr b4 0 ∧ t 7 = .ptr b7 0 ∧ t 8 = .int .i64 s ∧ t 9 = .int .i64 T ∧ t 10 = ownV y.o y.fs.length 1 ∧ t 11 = .int .i64 0 ∧ t 16 = .int .i64 y.i ∧ h = H0.updO y.o (intC y.fs)) (fun y => R.length - y.i) (⟨0, none, []⟩) (turnA_self ⟨by simp, rfl, by simp, trivial, by simp [h2, h4, h7, h8, h9, h10, h11]⟩) ?_
      rintro y t hx ⟨hi, hyl, hyo, hyf, h2, h4, h7, h8, h9, h10, h11, h16, ex⟩
      rw [ex]
      clear ex
      obtain ⟨i, o, gs⟩ := y
      simp only at h2 h4 h7 h8 h9 h10 h11 h16 hi hyl hyo hyf
      have d7o : ∀ off, cellsAt (H0.updO o (intC gs)) b7 off = some (([.int .i64 P, V] : List AV).drop off) := fun off => by
        cases o with
        | none => exact d7 off
        | some q =>
          have hq : H0 q = none := hyf
          have hne : ¬ b7 = q := fun e => by have := d7 0; rw [← e] at hq; simp [cellsAt, hq] at this
          rw [updO_some, cellsAt_upd, if_neg hne]
          exact d7 off
      by_cases hlt : i < R.length
      · have hltI : (i : Int) < (R.length : Int) := by omega
        have hwi : IntKind.i64.wrap ((i : Int) + 1) = (i : Int) + 1 := wrap_i64 (by omega) (by omega)
        have hVs := hV5 (fun e => by rw [e] at hlt; simp at hlt)
        simp [h2, h4, h7, h8, h9, h10, h11, h16, d7o, hV4, hltI, hlt, -lenA]
        have hat := arcC_at hlt
        obtain ⟨xx, hxx⟩ : ∃ xx, xx = R[i] := ⟨_, rfl⟩
        rw [← hxx] at hat
        have hxo := arcOk_iff.1 (O.ok xx (hxx ▸ List.getElem_mem hlt))
        have hi3 : 3 ≤ R.length * 3 - i * 3 := by omega
        have hi4 : min 3 (R.length * 3 - i * 3) = 3 := by omega
        have w1 : IntKind.i64.wrap (xx.c + 1) = xx.c + 1 := wrap_i64 (by omega) (by omega)
        have w2 : IntKind.u64.wrap (xx.c + 1) = xx.c + 1 := wrap_u64 (by omega) (by omega)
        have wne : ¬ xx.c + 1 = 0 := by omega
        by_cases hil : i < ls.length
        · have hilI : (i : Int) < (ls.length : Int) := by omega
          obtain ⟨yy, hyy⟩ : ∃ yy, yy = ls[i] := ⟨_, rfl⟩
          have hyy' : ls[i]? = some yy := by rw [hyy]; exact List.getElem?_eq_getElem hil
          simp [h2, h4, h7, h8, h9, h10, h11, h16, hSl, -lenA, hil, hilI]
          refine awp_draw_text (by kernel_rfl) [] [] (by kernel_rfl) (by kernel_rfl) (by simp) ?_
          simp [h2, h4, h7, h8, h9, h10, h11, h16, hSs, hil, hilI, intC_at hyy', d7o, hVs, hlt, hltI, hat, hi3, hi4, w1, w2, wne]
          obtain ⟨ff, hff⟩ : ∃ ff, ff = IntKind.i64.wrap ((IntKind.u64.wrap yy).tmod (xx.c + 1)) := ⟨_, rfl⟩
          try rw [← hff]
          intro b13 hb13
          have hb13H : Fresh H0 b13 := by cases o with | none => simpa using hb13 | some b => simp at hb13; exact hb13.2.2
          simp [h2, h4, h7, h8, h9, h10, h11, h16, hb13]
          have hcm : ∀ c : Chunk, (H0.updO o (intC gs)).upd b13 c = (H0.upd b13 c).updO o (intC gs) := fun c => by
            cases o with
            | none => rfl
            | some b => simp at hb13; exact AHeap.upd_comm hb13.2.1
          try rw [hcm]
          refine appendA_updO (by omega) (by omega) (fun e => by rw [hyo.1 e]; rfl) (by simp) (by simp) (by cases o with | none => simp [FreshO] | some b => simp at hb13; simp [FreshO, hb13]; exact hyf) fun b' hb' => ?_
          simp at hb'
          simp [h2, h4, h7, h8, h9, h10, h11, h16, hb', hb13]
          refine turnA_to (H0.updO (some b') (intC (gs ++ [ff]))) ?_ ⟨⟨i + 1, some b', gs ++ [ff]⟩, by simp only; omega, by simp only; omega, by simp [hyl], by simp, hb'.2.2, by simp [h2, h4, h7, h8, h9, h10, h11, h16, hwi, hyl, hSs]⟩
          simp [intC]
          exact Drop.both (Drop.new (Drop.refl _) hb13H)
        · have hilI : ¬ (i : Int) < (ls.length : Int) := by omega
          simp [h2, h4, h7, h8, h9, h10, h11, h16, hSl, -lenA, hil, hilI]
          intro b13 hb13
          have hb13H : Fresh H0 b13 := by cases o with | none => simpa using hb13 | some b => simp at hb13; exact hb13.2.2
          simp [h2, h4, h7, h8, h9, h10, h11, h16, hb13]
          have hcm : ∀ c : Chunk, (H0.updO o (intC gs)).upd b13 c = (H0.upd b13 c).updO o (intC gs) := fun c => by
            cases o with
            | none => rfl
            | some b => simp at hb13; exact AHeap.upd_comm hb13.2.1
          try rw [hcm]
          refine appendA_updO (by omega) (by omega) (fun e => by rw [hyo.1 e]; rfl) (by simp) (by simp) (by cases o with | none => simp [FreshO] | some b => simp at hb13; simp [FreshO, hb13]; exact hyf) fun b' hb' => ?_
          simp at hb'
          simp [h2, h4, h7, h8, h9, h10, h11, h16, hb', hb13]
          refine turnA_to (H0.updO (some b') (intC (gs ++ [0]))) ?_ ⟨⟨i + 1, some b', gs ++ [0]⟩, by simp only; omega, by simp only; omega, by simp [hyl], by simp, hb'.2.2, by simp [h2, h4, h7, h8, h9, h10, h11, h16, hwi, hyl, hSs]⟩
          simp [intC]
          exact Drop.both (Drop.new (Drop.refl _) hb13H)
      · obtain rfl : i = R.length := by omega
        simp [h2, h4, h7, h8, h9, h10, h11, h16, d7o, hV4, -lenA]
        refine turnA_own 10 o gs hyo hyf (by simp [h2, h4, h7, h8, h9, h10, h11, h16]) ⟨⟨1, gs⟩, by simp only; omega, by simp only; omega, by simp only; omega, by simp [h2, h4, h7, h8, h9, h10, h11, h16]⟩
    · have hk0I : ¬ (k : Int) = 0 := by omega
      simp [h2, h4, h7, h8, h9, h10, h11, hk0, hk0I, d7, hV1, hV2, hV3]
      refine cn.use ?_
      simp [h2, h4, h7, h8, h9, h10, h11]
      refine ACalls.mono (cm H0) ?_
      rintro _ _ ⟨o, v, left, rfl, rfl, hof, hon, F⟩
      have hfl : (flowL R left).length = R.length := by simp [flowL]
      have hoe : o = none ↔ flowL R left = [] := by rw [hon, ← hfl, List.length_eq_zero_iff]
      obtain ⟨gs, hgs⟩ : ∃ gs, gs = flowL R left := ⟨_, rfl⟩
      rw [← hgs] at hfl hoe
      rw [← hgs]
      have d7o : ∀ off, cellsAt (H0.updO o (intC gs)) b7 off = some (([.int .i64 P, V] : List AV).drop off) := fun off => by
        cases o with
        | none => exact d7 off
        | some q =>
          have hq : H0 q = none := hof
          have hne : ¬ b7 = q := fun e => by have := d7 0; rw [← e] at hq; simp [cellsAt, hq] at this
          rw [updO_some, cellsAt_upd, if_neg hne]
          exact d7 off
      have hlo : ∀ h, lenA Try.prog h 41 (ownV o R.length 1) = some (.int .i64 (R.length : Int)) := fun h => by
        cases o with
        | none => have := hon.1 rfl; simp [this]
        | some q => simp
      simp [h2, h4, h7, h8, h9, h10, h11, d7o, hV4, hlo, hSl, -lenA]
      by_cases c1 : 0 < R.length ∧ 0 < ls.length
      · obtain ⟨c1, c2⟩ := c1
        have c1I : (0 : Int) < (R.length : Int) := by omega
        have c2I : (0 : Int) < (ls.length : Int) := by omega
        cases o with
        | none => have := hon.1 rfl; omega
        | some q =>
          have hq : H0 q = none := hof
          obtain ⟨l0, hl0⟩ : ∃ l0, l0 = ls[0] := ⟨_, rfl⟩
          have hl0' : ls[0]? = some l0 := by rw [hl0]; exact List.getElem?_eq_getElem c2
          have hat0 := intC_at hl0'
          simp only [List.drop_zero] at hat0
          obtain ⟨tl, htl⟩ : ∃ tl, tl = (intC ls).drop (0 + 1) := ⟨_, rfl⟩
          rw [← htl] at hat0
          clear htl
          have uR : IntKind.u64.wrap (R.length : Int) = (R.length : Int) := wrap_u64 (by omega) (by omega)
          have hRne : ¬ (R.length : Int) = 0 := by omega
          have hRne0 : ¬ R.length = 0 := by omega
          have ul := u64_nonneg l0
          obtain ⟨j, hj⟩ : ∃ j : Nat, IntKind.u64.wrap l0 % (R.length : Int) = j := ⟨(IntKind.u64.wrap l0 % (R.length : Int)).toNat, by have := Int.emod_nonneg (IntKind.u64.wrap l0) hRne; omega⟩
          have hj2 : j < R.length := by have := Int.emod_lt_of_pos (IntKind.u64.wrap l0) (show (0 : Int) < R.length by omega); omega
          have hj2I : (j : Int) < (R.length : Int) := by omega
          have tj : (IntKind.u64.wrap l0).tmod (R.length : Int) = j := by rw [Int.tmod_eq_emod_of_nonneg ul.1, hj]
          have wj : IntKind.i64.wrap (j : Int) = j := wrap_i64 (by omega) (by omega)
          have hjg : j < gs.length := by omega
          obtain ⟨gj, hgj⟩ : ∃ gj, gj = gs[j] := ⟨_, rfl⟩
          have hgj' : gs[j]? = some gj := by rw [hgj]; exact List.getElem?_eq_getElem hjg
          simp [h2, h4, h7, h8, h9, h10, h11, c1, c1I, c2, c2I, hSl, hlo, -lenA]
          simp [h2, h4, h7, h8, h9, h10, h11, hSs, c1, c1I, c2, c2I, hat0, uR, hRne, hRne0, tj, wj, hj2, hj2I, intC_at hgj', hfl]
          have hset : (intC gs).set j (.int .i64 (IntKind.i64.wrap (gj - 1))) = intC (gs.set j (IntKind.i64.wrap (gj - 1))) := by simp [intC, List.map_set]
          refine ⟨by omega, ?_⟩
          rw [hset]
          refine turnA_own (h := H0) 10 (some q) (gs.set j (IntKind.i64.wrap (gj - 1))) ⟨(fun h => nomatch h), fun h => ?_⟩ hof (by simp [h2, h4, h7, h8, h9, h10, h11, hfl]) ⟨⟨k + 1, gs.set j (IntKind.i64.wrap (gj - 1))⟩, by simp only; omega, by simp only; omega, by simp only [List.length_set]; omega, by simp [h2, h4, h7, h8, h9, h10, h11, hwk, hSs, hat0]⟩
          have h5 : (gs.set j (IntKind.i64.wrap (gj - 1))).length = 0 := by rw [h]; rfl
          rw [List.length_set] at h5
          omega
      · have c3 : ¬ 0 < R.length ∨ (0 < R.length ∧ ¬ 0 < ls.length) := by omega
        rcases c3 with c3 | ⟨c3, c4⟩
        · have c3I : ¬ (0 : Int) < (R.length : Int) := by omega
          simp [h2, h4, h7, h8, h9, h10, h11, c3, c3I]
          refine turnA_own 10 o gs hoe hof (by simp [h2, h4, h7, h8, h9, h10, h11, hfl]) ⟨⟨k + 1, gs⟩, by simp only; omega, by simp only; omega, by simp only; omega, by simp [h2, h4, h7, h8, h9, h10, h11, hwk]⟩
        · have c3I : (0 : Int) < (R.length : Int) := by omega
          have c4I : ¬ (0 : Int) < (ls.length : Int) := by omega
          simp [h2, h4, h7, h8, h9, h10, h11, c3, c3I, c4, c4I, hSl, -lenA]
          refine turnA_own 10 o gs hoe hof (by simp [h2, h4, h7, h8, h9, h10, h11, hfl]) ⟨⟨k + 1, gs⟩, by simp only; omega, by simp only; omega, by simp only; omega, by simp [h2, h4, h7, h8, h9, h10, h11, hwk]⟩
  · have hk3I : ¬ (k : Int) < 3 := by omega
    simp [h2, h4, h7, h8, h9, h10, h11, hk3, hk3I]
    refine awp_loop_g (γ := JS) (fun y t h => (y.i ≤ 8) ∧ (y.fs.length = y.i) ∧ (y.o = none ↔ y.fs = []) ∧ (FreshO H0 y.o) ∧ t 2 = intsA ls ∧ t 4 = .ptr b4 0 ∧ t 7 = .ptr b7 0 ∧ t 21 = ownV y.o y.fs.length 1 ∧ t 22 = .int .i64 y.i ∧ h = H0.updO y.o (intC y.fs)) (fun y => 8 - y.i) (⟨0, none, []⟩) (turnA_self ⟨by simp, rfl, by simp, trivial, by simp [h2, h4, h7, h8, h9, h10, h11]⟩) ?_
    rintro y t hx ⟨hi, hyl, hyo, hyf, h2, h4, h7, h21, h22, ex⟩
    rw [ex]
    clear ex
    obtain ⟨i, o, gs⟩ := y
    simp only at h2 h4 h7 h21 h22 hi hyl hyo hyf
    by_cases c1 : i < ls.length
    · have c1I : (i : Int) < (ls.length : Int) := by omega
      by_cases c2 : i < 8
      · have c2I : (i : Int) < 8 := by omega
        have hwi : IntKind.i64.wrap ((i : Int) + 1) = (i : Int) + 1 := wrap_i64 (by omega) (by omega)
        obtain ⟨yy, hyy⟩ : ∃ yy, yy = ls[i] := ⟨_, rfl⟩
        have hyy' : ls[i]? = some yy := by rw [hyy]; exact List.getElem?_eq_getElem c1
        simp [h2, h4, h7, h21, h22, hSl, -lenA, c1, c1I, c2, c2I]
        simp [h2, h4, h7, h21, h22, hSs, c1, c1I, intC_at hyy']
        obtain ⟨ff, hff⟩ : ∃ ff, ff = yy.tmod 10 := ⟨_, rfl⟩
        rw [← hff]
        intro b13 hb13
        have hb13H : Fresh H0 b13 := by cases o with | none => simpa using hb13 | some b => simp at hb13; exact hb13.2.2
        simp [h2, h4, h7, h21, h22, hb13]
        have hcm : ∀ c : Chunk, (H0.updO o (intC gs)).upd b13 c = (H0.upd b13 c).updO o (intC gs) := fun c => by
          cases o with
          | none => rfl
          | some b => simp at hb13; exact AHeap.upd_comm hb13.2.1
        try rw [hcm]
        refine appendA_updO (by omega) (by omega) (fun e => by rw [hyo.1 e]; rfl) (by simp) (by simp) (by cases o with | none => simp [FreshO] | some b => simp at hb13; simp [FreshO, hb13]; exact hyf) fun b' hb' => ?_
        simp at hb'
        simp [h2, h4, h7, h21, h22, hb', hb13]
        refine turnA_to (H0.updO (some b') (intC (gs ++ [ff]))) ?_ ⟨⟨i + 1, some b', gs ++ [ff]⟩, by simp only; omega, by simp only; omega, by simp [hyl], by simp, hb'.2.2, by simp [h2, h4, h7, h21, h22, hwi, hyl, hSs]⟩
        simp [intC]
        exact Drop.both (Drop.new (Drop.refl _) hb13H)
      · have c2I : ¬ (i : Int) < 8 := by omega
        simp [h2, h4, h7, h21, h22, hSl, -lenA, c1, c1I, c2, c2I]
        refine awp_loop_g (γ := JX) (fun y t h => (y.k ≤ 2) ∧ (y.fs.length ≤ 1000000) ∧ t 4 = .ptr b4 0 ∧ t 7 = .ptr b7 0 ∧ t 21 = intL y.fs ∧ t 23 = .int .i64 y.k ∧ h = H0) (fun y => 2 - y.k) (⟨0, gs⟩) (turnA_own 21 o gs hyo hyf (by simp [h2, h4, h7, h21, h22]) ⟨by simp, by simp only; omega, by simp [h2, h4, h7, h21, h22]⟩) ?_
        rintro y t hx ⟨hk, hfs, h4, h7, h21, h23, ex⟩
        rw [ex]
        clear ex
        obtain ⟨k, fs⟩ := y
        simp only at h4 h7 h21 h23 hk hfs
        by_cases k2 : k < 2
        · have k2I : (k : Int) < 2 := by omega
          have hwk : IntKind.i64.wrap ((k : Int) + 1) = (k : Int) + 1 := wrap_i64 (by omega) (by omega)
          have cc1 := cca fs hfs
          have cr1 := ccr fs hfs
          have ci1 := cri fs hfs
          have hc1 := hcap fs
          unfold capacityF at cc1
          rw [if_neg (by simp [c0])] at cc1
          rw [show capF R fs = capN fs.contains R from by unfold capF; rw [hc1]; omega] at cc1
          generalize capN fs.contains R = cp at cc1 cr1
          generalize okFrom P (-1) fs = ok at cc1 ci1
          have uP : IntKind.u64.wrap (P : Int) = P := wrap_u64 (by omega) (by omega)
          have hpow : 2 ^ P ≤ 2 ^ 6 := Nat.pow_le_pow_right (by omega) hP2.2
          have hpow1 : 1 ≤ 2 ^ P := Nat.one_le_two_pow
          obtain ⟨N, hN⟩ : ∃ N, N = 2 ^ P := ⟨_, rfl⟩
          have w2 : IntKind.u64.wrap (2 ^ min P IntKind.u64.bits) = (N : Int) := by
            rw [show min P IntKind.u64.bits = P from Nat.min_eq_left (show P ≤ 64 by omega), show ((2 : Int) ^ P) = ((2 ^ P : Nat) : Int) from by simp, ← hN]
            exact wrap_u64 (by omega) (by omega)
          rw [← hN] at hpow hpow1
          have hNne : ¬ (N : Int) = 0 := by omega
          have hNne0 : ¬ N = 0 := by omega
          have ua := u64_nonneg a
          obtain ⟨z, hz⟩ : ∃ z : Nat, IntKind.u64.wrap a % (N : Int) = z := ⟨(IntKind.u64.wrap a % (N : Int)).toNat, by have := Int.emod_nonneg (IntKind.u64.wrap a) hNne; omega⟩
          have hz2 : z < N := by have := Int.emod_lt_of_pos (IntKind.u64.wrap a) (show (0 : Int) < N by omega); omega
          have tz : (IntKind.u64.wrap a).tmod (N : Int) = z := by rw [Int.tmod_eq_emod_of_nonneg ua.1, hz]
          have wz : IntKind.i64.wrap (z : Int) = z := wrap_i64 (by omega) (by omega)
          have hmem := l_Members P z (by omega) (by omega)
          have hmz := memL_len P z
          rw [natL_int] at hmem
          simp [h4, h7, h21, h23, k2, k2I, d7, hV1, hV2, hV3]
          refine cn.use ?_
          simp [h4, h7, h21, h23]
          refine cc1.use ?_
          cases ok with
          | false =>
            simp [h4, h7, h21, h23, d7]
            refine ci1.use ?_
            simp [h4, h7, h21, h23]
            refine awp_draw_text (by kernel_rfl) [] [] (by kernel_rfl) (by kernel_rfl) (by simp) ?_
            simp [h4, h7, h21, h23, d7, d4, uP, w2, hNne, hNne0, tz, wz]
            refine hmem.use ?_
            simp [h4, h7, h21, h23]
            exact turnA_self ⟨⟨k + 1, (memL P z).map fun x : Nat => (x : Int)⟩, by simp only; omega, by simp only; omega, by simp; omega, by simp [h4, h7, h21, h23, hwk]⟩
          | true =>
            simp [h4, h7, h21, h23, d7]
            refine ci1.use ?_
            simp [h4, h7, h21, h23, d7, hV1, hV2, hV3]
            refine cr1.use ?_
            simp [h4, h7, h21, h23]
            refine awp_draw_text (by kernel_rfl) [] [] (by kernel_rfl) (by kernel_rfl) (by simp) ?_
            simp [h4, h7, h21, h23, d7, d4, uP, w2, hNne, hNne0, tz, wz]
            refine hmem.use ?_
            simp [h4, h7, h21, h23]
            exact turnA_self ⟨⟨k + 1, (memL P z).map fun x : Nat => (x : Int)⟩, by simp only; omega, by simp only; omega, by simp; omega, by simp [h4, h7, h21, h23, hwk]⟩
        · have k2I : ¬ (k : Int) < 2 := by omega
          simp [h4, h7, h21, h23, k2, k2I]
          refine w_awake.use ?_
          simp
          exact finA_drop rfl
    · have c1I : ¬ (i : Int) < (ls.length : Int) := by omega
      simp [h2, h4, h7, h21, h22, hSl, -lenA, c1, c1I]
      refine awp_loop_g (γ := JX) (fun y t h => (y.k ≤ 2) ∧ (y.fs.length ≤ 1000000) ∧ t 4 = .ptr b4 0 ∧ t 7 = .ptr b7 0 ∧ t 21 = intL y.fs ∧ t 23 = .int .i64 y.k ∧ h = H0) (fun y => 2 - y.k) (⟨0, gs⟩) (turnA_own 21 o gs hyo hyf (by simp [h2, h4, h7, h21, h22]) ⟨by simp, by simp only; omega, by simp [h2, h4, h7, h21, h22]⟩) ?_
      rintro y t hx ⟨hk, hfs, h4, h7, h21, h23, ex⟩
      rw [ex]
      clear ex
      obtain ⟨k, fs⟩ := y
      simp only at h4 h7 h21 h23 hk hfs
      by_cases k2 : k < 2
      · have k2I : (k : Int) < 2 := by omega
        have hwk : IntKind.i64.wrap ((k : Int) + 1) = (k : Int) + 1 := wrap_i64 (by omega) (by omega)
        have cc1 := cca fs hfs
        have cr1 := ccr fs hfs
        have ci1 := cri fs hfs
        have hc1 := hcap fs
        unfold capacityF at cc1
        rw [if_neg (by simp [c0])] at cc1
        rw [show capF R fs = capN fs.contains R from by unfold capF; rw [hc1]; omega] at cc1
        generalize capN fs.contains R = cp at cc1 cr1
        generalize okFrom P (-1) fs = ok at cc1 ci1
        have uP : IntKind.u64.wrap (P : Int) = P := wrap_u64 (by omega) (by omega)
        have hpow : 2 ^ P ≤ 2 ^ 6 := Nat.pow_le_pow_right (by omega) hP2.2
        have hpow1 : 1 ≤ 2 ^ P := Nat.one_le_two_pow
        obtain ⟨N, hN⟩ : ∃ N, N = 2 ^ P := ⟨_, rfl⟩
        have w2 : IntKind.u64.wrap (2 ^ min P IntKind.u64.bits) = (N : Int) := by
          rw [show min P IntKind.u64.bits = P from Nat.min_eq_left (show P ≤ 64 by omega), show ((2 : Int) ^ P) = ((2 ^ P : Nat) : Int) from by simp, ← hN]
          exact wrap_u64 (by omega) (by omega)
        rw [← hN] at hpow hpow1
        have hNne : ¬ (N : Int) = 0 := by omega
        have hNne0 : ¬ N = 0 := by omega
        have ua := u64_nonneg a
        obtain ⟨z, hz⟩ : ∃ z : Nat, IntKind.u64.wrap a % (N : Int) = z := ⟨(IntKind.u64.wrap a % (N : Int)).toNat, by have := Int.emod_nonneg (IntKind.u64.wrap a) hNne; omega⟩
        have hz2 : z < N := by have := Int.emod_lt_of_pos (IntKind.u64.wrap a) (show (0 : Int) < N by omega); omega
        have tz : (IntKind.u64.wrap a).tmod (N : Int) = z := by rw [Int.tmod_eq_emod_of_nonneg ua.1, hz]
        have wz : IntKind.i64.wrap (z : Int) = z := wrap_i64 (by omega) (by omega)
        have hmem := l_Members P z (by omega) (by omega)
        have hmz := memL_len P z
        rw [natL_int] at hmem
        simp [h4, h7, h21, h23, k2, k2I, d7, hV1, hV2, hV3]
        refine cn.use ?_
        simp [h4, h7, h21, h23]
        refine cc1.use ?_
        cases ok with
        | false =>
          simp [h4, h7, h21, h23, d7]
          refine ci1.use ?_
          simp [h4, h7, h21, h23]
          refine awp_draw_text (by kernel_rfl) [] [] (by kernel_rfl) (by kernel_rfl) (by simp) ?_
          simp [h4, h7, h21, h23, d7, d4, uP, w2, hNne, hNne0, tz, wz]
          refine hmem.use ?_
          simp [h4, h7, h21, h23]
          exact turnA_self ⟨⟨k + 1, (memL P z).map fun x : Nat => (x : Int)⟩, by simp only; omega, by simp only; omega, by simp; omega, by simp [h4, h7, h21, h23, hwk]⟩
        | true =>
          simp [h4, h7, h21, h23, d7]
          refine ci1.use ?_
          simp [h4, h7, h21, h23, d7, hV1, hV2, hV3]
          refine cr1.use ?_
          simp [h4, h7, h21, h23]
          refine awp_draw_text (by kernel_rfl) [] [] (by kernel_rfl) (by kernel_rfl) (by simp) ?_
          simp [h4, h7, h21, h23, d7, d4, uP, w2, hNne, hNne0, tz, wz]
          refine hmem.use ?_
          simp [h4, h7, h21, h23]
          exact turnA_self ⟨⟨k + 1, (memL P z).map fun x : Nat => (x : Int)⟩, by simp only; omega, by simp only; omega, by simp; omega, by simp [h4, h7, h21, h23, hwk]⟩
      · have k2I : ¬ (k : Int) < 2 := by omega
        simp [h4, h7, h21, h23, k2, k2I]
        refine w_awake.use ?_
        simp
        exact finA_drop rfl
end Go.Proofs
