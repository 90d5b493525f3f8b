/-
  Ring: the walk of RingRests.
-/
import Derived.Test.YtobdaaoefbgilaaRgC2
import Derived.Test.YtobdaaoefbgilaaRgN2
import Derived.Test.YtobdaaoefbgilaaRgP
set_option linter.unusedSimpArgs false
set_option linter.unusedVariables false
set_option linter.unusedSectionVars false
namespace Go.Proofs
open Go Go.AH
set_option maxRecDepth 10000
set_option maxHeartbeats 4000000

theorem Verd.most {r : Rul} (hr : r.ok) {joint : Bool} {a m : Nat} {ρ L : AV} (v : Verd r joint 0 a m ρ L) : m ≤ 20000 := by
  cases v with
  | @steady L h1 h2 h3 =>
    have := hr.sz
    rcases Nat.eq_zero_or_pos (maxL L) with e | e
    · omega
    · have := h3.bd hr _ (maxL_mem e); omega
structure RS where
  i : Nat
  l : List Nat
theorem cfg_confE {r : Rul} {l : List Nat} (h : Cfg r l) : confE r (intL l) = 0 := by
  unfold confE
  rw [if_neg (by simp [intL, h.len]), if_neg]
  rw [Bool.not_eq_true, List.any_eq_false]
  intro x hx
  obtain ⟨y, hy, rfl⟩ := List.mem_map.1 hx
  have := h.lt y hy
  simp [badC]; omega
theorem natI_intL (l : List Nat) : natI (intL l) = l := natI_nat l
theorem l_RingRests (a b : Int) (l0 l1 : List Int) (hl0 : l0.length ≤ 20000000000000) (hl1 : l1.length ≤ 20000000000000) : Pure Try.prog 5 [.agg [.int .i64 a, .int .i64 b], .agg [intsA l0, intsA l1]] (.bool true) := by
  refine pure_of (acalls_of Try.func5 rfl Try.call5 (by kernel_rfl) (by show _ ≤ (119 : Nat); simp) ?_)
  have hya := uM_lt (x := a) (n := 3) (by omega)
  have hyb := uM_lt (x := b) (n := 2) (by omega)
  have va := uM_mod (x := a) (n := 3) (by omega)
  have vb := uM_mod (x := b) (n := 2) (by omega)
  obtain ⟨ya, hy1⟩ : ∃ y, y = uM a 3 := ⟨_, rfl⟩
  obtain ⟨yb, hy2⟩ : ∃ y, y = uM b 2 := ⟨_, rfl⟩
  rw [← hy1] at hya va
  rw [← hy2] at hyb vb
  obtain ⟨m, hm⟩ : ∃ m, m = 2 + ya := ⟨_, rfl⟩
  obtain ⟨c, hc⟩ : ∃ c, c = max 2 (m - 1) + yb := ⟨_, rfl⟩
  have va4 : (IntKind.u64.wrap a).tmod 3 = (ya : Int) := va
  have vb4 : (IntKind.u64.wrap b).tmod 2 = (yb : Int) := vb
  have wa : IntKind.i64.wrap (ya : Int) = (ya : Int) := wrap_i64 (by omega) (by omega)
  have wb : IntKind.i64.wrap (yb : Int) = (yb : Int) := wrap_i64 (by omega) (by omega)
  have wm : IntKind.i64.wrap (2 + (ya : Int)) = (m : Int) := by rw [hm, wrap_i64 (by omega) (by omega)]; omega
  have wm1 : IntKind.i64.wrap ((m : Int) - 1) = ((m - 1 : Nat) : Int) := by rw [wrap_i64 (by omega) (by omega)]; omega
  have wc : IntKind.i64.wrap ((if (2 : Int) < ((m - 1 : Nat) : Int) then ((m - 1 : Nat) : Int) else 2) + (yb : Int)) = (c : Int) := by
    rw [hc]; split
    · rw [wrap_i64 (by omega) (by omega)]; omega
    · rw [wrap_i64 (by omega) (by omega)]; omega
  have hm5 : m ≤ 4 := by omega
  have hc5 : c ≤ 4 := by omega
  have hm2 : 2 ≤ m := by omega
  have hc2 : 2 ≤ c := by omega
  have hcm : m - 1 ≤ c := by omega
  have hpw := pw_le5 (c := c) (m := m) (by omega) (by omega)
  have hr := dij_ok hm2 (by omega) hc2 (by omega) hpw
  have hs0 : ¬ sizeN m c = 0 := by
    rw [sizeN_in hm2 (by omega) hc2 (by omega), if_pos hpw]
    have := pw_pos (c := c) (by omega) m
    omega
  have cD := w_Dijkstra m c
  have cR := r_Dijkstra m c
  rw [if_neg hs0] at cD cR
  simp only [Int.toNat_natCast] at cD cR
  obtain ⟨f0, ct⟩ := dij_cert hm2 (by omega) hc2 (by omega) hcm
  obtain ⟨r, hre⟩ : ∃ r, r = dijR m c := ⟨_, rfl⟩
  have hrm : r.m = m := by rw [hre]; rfl
  have hrc : r.c = c := by rw [hre]; rfl
  rw [← hre] at hr cD cR ct
  have cj := w_Judge r hr false
  have hav : r.av = .agg [.int .i64 r.m, .int .i64 r.c, rowsA r.next] := rfl
  have e1 := l_config r hr l0 hl0
  rw [hav] at cD cR cj e1
  have caw := w_awake
  have hlen0 : ∀ x : Nat, x < 2 → ([intsA l0, intsA l1] : List AV)[x]? ≠ none := by intro x hx; match x, hx with | 0, _ => simp | 1, _ => simp
  simp
  intro b2 hb2
  simp
  intro b3 hb3
  simp at hb3
  simp [hb3, va4, wa, wm, wm1, vb4, wb]
  rw [wc]
  simp
  refine cD.use ?_
  simp
  intro b7 hb7
  simp [hb3] at hb7
  simp [hb3, hb7]
  refine ACalls.mono (at_heap cj _) ?_
  rintro _ hx ⟨ehx, cd, at1, mo, ρ, L, rfl, hv, hρ1⟩
  rw [ehx]
  clear ehx hx
  obtain rfl := ct.code hv
  have hmo := hv.most hr
  obtain ⟨f, f1, f2, f3, f4⟩ := hv.rest hr
  simp [verdA, hρ1]
  intro b9 hb9
  simp at hb9
  simp [hb3, hb7, hb9, hρ1]
  refine cR.use ?_
  simp
  intro b11 hb11
  simp at hb11
  simp [hb3, hb7, hb9, hb11, hρ1]
  refine e1.use ?_
  simp
  have hc0 : Cfg r (confF r l0) := confF_cfg hr l0
  obtain ⟨H, hH⟩ : ∃ H, H = ((((AHeap.empty.upd b2 (.cells [.int .i64 a, .int .i64 b])).upd b3 (.cells [intsA l0, intsA l1])).upd b7 (.cells [.int .i64 r.m, .int .i64 r.c, rowsA r.next])).upd b9 (.cells [.int .i64 0, .int .i64 at1, .int .i64 mo, ρ])).upd b11 (.cells [.int .i64 r.m, .int .i64 r.c, rowsA r.next]) := ⟨_, rfl⟩
  have e3 : ∀ off, cellsAt H b3 off = some (([intsA l0, intsA l1] : List AV).drop off) := by intro off; rw [hH]; simp [hb3, hb7, hb9, hb11]
  have e7 : ∀ off, cellsAt H b7 off = some (([.int .i64 r.m, .int .i64 r.c, rowsA r.next] : List AV).drop off) := by intro off; rw [hH]; simp [hb3, hb7, hb9, hb11]
  have e9 : ∀ off, cellsAt H b9 off = some (([.int .i64 0, .int .i64 at1, .int .i64 mo, ρ] : List AV).drop off) := by intro off; rw [hH]; simp [hb3, hb7, hb9, hb11]
  rw [← hH]
  clear hH
  have hwt : IntKind.i64.wrap ((mo : Int) + 12) = ((mo + 12 : Nat) : Int) := wrap_i64 (by omega) (by omega)
  refine awp_loop_g (γ := RS) (fun q t h => (q.i ≤ mo + 12) ∧ (Cfg r q.l) ∧ (f (numF r.c q.l) ≤ mo - q.i) ∧ t 3 = .ptr b3 0 ∧ t 7 = .ptr b7 0 ∧ t 9 = .ptr b9 0 ∧ t 13 = natsA q.l ∧ t 14 = .int .i64 q.i ∧ h = H) (fun q => mo + 12 - q.i) (⟨0, confF r l0⟩) (turnA_self (by simp; exact ⟨hc0, f1 _ (cfg_num hr hc0)⟩)) ?_
  rintro q t hx ⟨hi, hcf, hfn, h3, h7, h9, h13, h14, ex⟩
  rw [ex]
  clear ex
  obtain ⟨i, l⟩ := q
  simp only at h3 h7 h9 h13 h14 hi hcf hfn
  by_cases hlt : i < mo + 12
  · have hltI : (i : Int) < (mo : Int) + 12 := by omega
    have hwi : IntKind.i64.wrap ((i : Int) + 1) = (i : Int) + 1 := wrap_i64 (by omega) (by omega)
    have hlm := hcf.len
    have hlne : ¬ l = [] := fun e => by rw [e] at hlm; simp at hlm; omega
    have hla := natsA_int l hlne
    have hrd := w_Ready r hr (intL l) (by simp [intL, hlm]; omega)
    rw [cfg_confE hcf, natI_intL, if_pos rfl, ← hla, hav] at hrd
    have hnS := cfg_num hr hcf
    have hof := cfg_of hr hcf
    have hst := f3 _ hnS
    unfold stuckF at hst
    rw [hof] at hst
    have hrne : ¬ readyF r l = [] := by simpa using hst
    have hlr : listA (readyF r l) = natsA (readyF r l) := by rw [listA, if_neg hrne]
    rw [hlr] at hrd
    have hgd : mo ≤ i → (readyF r l).length = 1 := fun h => by
      have := (f2 _ hnS).1 (by omega)
      unfold goodF at this
      rw [hof] at this
      simpa using this
    have hgo : ∀ x : Nat, ∃ l', Cfg r l' ∧ f (numF r.c l') ≤ mo - (i + 1) ∧ playO r (intL l) [(x : Int)] = (intL l', 0) := by
      intro x
      obtain ⟨hk, hp⟩ := pick_ok hrne x
      have hjm : (readyF r l)[x % (readyF r l).length]'hk ∈ readyF r l := List.getElem_mem hk
      refine ⟨stepF r l [(readyF r l)[x % (readyF r l).length]], step_cfg hr hcf (fun i hi => by simp only [List.mem_singleton] at hi; subst hi; exact readyF_ok _ hjm), ?_, ?_⟩
      · have := (f4 _ hnS (numF r.c (stepF r l [(readyF r l)[x % (readyF r l).length]])) (by unfold succF; rw [hof]; exact List.mem_map.2 ⟨_, hjm, rfl⟩)).2
        omega
      · unfold playO
        rw [cfg_confE hcf, natI_intL]
        simp only [not_true_eq_false, if_false]
        rw [if_neg (by simp)]
        simp only [playR, if_neg hrne, Int.toNat_natCast, hp]
        rfl
    simp [h3, h7, h9, h13, h14, e3, e7, e9, hwt, hlt, hltI]
    by_cases hin : i < l1.length
    · have hinI : (i : Int) < (l1.length : Int) := by omega
      obtain ⟨x, hx⟩ : ∃ x, x = l1[i] := ⟨_, rfl⟩
      have hx' : l1[i]'hin = x := hx.symm
      have hu := uM_lt (x := x) (n := 100) (by omega)
      obtain ⟨y, hy2⟩ : ∃ y, y = uM x 100 := ⟨_, rfl⟩
      rw [← hy2] at hu
      have v1 : (IntKind.u64.wrap x).tmod 100 = (y : Int) := by rw [hy2]; exact uM_mod (n := 100) (by omega)
      have v2 : IntKind.i64.wrap (y : Int) = (y : Int) := wrap_i64 (by omega) (by omega)
      simp [h3, h7, h9, h13, h14, e3, e7, e9, hin, hinI, hx', v1, v2, intsA]
      refine hrd.use ?_
      by_cases him : mo ≤ i
      · have himI : (mo : Int) ≤ (i : Int) := by omega
        have hg1 := hgd him
        have hln1 : ∀ h, lenA Try.prog h 25 (natsA (readyF r l)) = some (.int .i64 1) := fun h => by unfold natsA; simp [hg1]
        simp [h3, h7, h9, h13, h14, e3, e7, e9, him, himI, hg1, -lenA, hln1]
        simp [h3, h7, h9, h13, h14, e3, e7, e9]
        intro bc hbc
        obtain ⟨l', g1, g2, g3⟩ := hgo y
        have hpl : ACalls Try.prog 14 [r.av, listI (intL l), .osl bc 0 1 1] (H.upd bc (.cells [.int .i64 (y : Int)])) fun a h => a = .tup [listI (playO r (intL l) [(y : Int)]).1, .int .i64 (playO r (intL l) [(y : Int)]).2] ∧ h = H.upd bc (.cells [.int .i64 (y : Int)]) := own_call (w_Play r hr (intL l) (by simp [intL, hcf.len]; omega) [(y : Int)] (by simp) (some bc) (by simp)) (H := H) hbc
        rw [g3, hav, ← hla] at hpl
        have k7 := ne_fresh (e7 0) hbc
        have hlm' := g1.len
        have hlne' : ¬ l' = [] := fun e => by rw [e] at hlm'; simp at hlm'; omega
        rw [← natsA_int l' hlne'] at hpl
        simp [h3, h7, h9, h13, h14, e3, e7, e9, k7]
        refine hpl.use ?_
        simp [h3, h7, h9, h13, h14, e3, e7, e9]
        refine turnA_to H (Drop.new (Drop.refl _) hbc) ⟨⟨i + 1, l'⟩, by simp only; omega, by simp only; omega, g1, g2, by simp [h3, h7, h9, h13, h14, hwi]⟩
      · have himI : ¬ (mo : Int) ≤ (i : Int) := by omega
        simp [h3, h7, h9, h13, h14, e3, e7, e9, him, himI]
        simp [h3, h7, h9, h13, h14, e3, e7, e9]
        intro bc hbc
        obtain ⟨l', g1, g2, g3⟩ := hgo y
        have hpl : ACalls Try.prog 14 [r.av, listI (intL l), .osl bc 0 1 1] (H.upd bc (.cells [.int .i64 (y : Int)])) fun a h => a = .tup [listI (playO r (intL l) [(y : Int)]).1, .int .i64 (playO r (intL l) [(y : Int)]).2] ∧ h = H.upd bc (.cells [.int .i64 (y : Int)]) := own_call (w_Play r hr (intL l) (by simp [intL, hcf.len]; omega) [(y : Int)] (by simp) (some bc) (by simp)) (H := H) hbc
        rw [g3, hav, ← hla] at hpl
        have k7 := ne_fresh (e7 0) hbc
        have hlm' := g1.len
        have hlne' : ¬ l' = [] := fun e => by rw [e] at hlm'; simp at hlm'; omega
        rw [← natsA_int l' hlne'] at hpl
        simp [h3, h7, h9, h13, h14, e3, e7, e9, k7]
        refine hpl.use ?_
        simp [h3, h7, h9, h13, h14, e3, e7, e9]
        refine turnA_to H (Drop.new (Drop.refl _) hbc) ⟨⟨i + 1, l'⟩, by simp only; omega, by simp only; omega, g1, g2, by simp [h3, h7, h9, h13, h14, hwi]⟩
    · have hinI : ¬ (i : Int) < (l1.length : Int) := by omega
      simp [h3, h7, h9, h13, h14, e3, e7, e9, hin, hinI, intsA]
      refine hrd.use ?_
      by_cases him : mo ≤ i
      · have himI : (mo : Int) ≤ (i : Int) := by omega
        have hg1 := hgd him
        have hln1 : ∀ h, lenA Try.prog h 25 (natsA (readyF r l)) = some (.int .i64 1) := fun h => by unfold natsA; simp [hg1]
        simp [h3, h7, h9, h13, h14, e3, e7, e9, him, himI, hg1, -lenA, hln1]
        simp [h3, h7, h9, h13, h14, e3, e7, e9]
        intro bc hbc
        obtain ⟨l', g1, g2, g3⟩ := hgo i
        have hpl : ACalls Try.prog 14 [r.av, listI (intL l), .osl bc 0 1 1] (H.upd bc (.cells [.int .i64 (i : Int)])) fun a h => a = .tup [listI (playO r (intL l) [(i : Int)]).1, .int .i64 (playO r (intL l) [(i : Int)]).2] ∧ h = H.upd bc (.cells [.int .i64 (i : Int)]) := own_call (w_Play r hr (intL l) (by simp [intL, hcf.len]; omega) [(i : Int)] (by simp) (some bc) (by simp)) (H := H) hbc
        rw [g3, hav, ← hla] at hpl
        have k7 := ne_fresh (e7 0) hbc
        have hlm' := g1.len
        have hlne' : ¬ l' = [] := fun e => by rw [e] at hlm'; simp at hlm'; omega
        rw [← natsA_int l' hlne'] at hpl
        simp [h3, h7, h9, h13, h14, e3, e7, e9, k7]
        refine hpl.use ?_
        simp [h3, h7, h9, h13, h14, e3, e7, e9]
        refine turnA_to H (Drop.new (Drop.refl _) hbc) ⟨⟨i + 1, l'⟩, by simp only; omega, by simp only; omega, g1, g2, by simp [h3, h7, h9, h13, h14, hwi]⟩
      · have himI : ¬ (mo : Int) ≤ (i : Int) := by omega
        simp [h3, h7, h9, h13, h14, e3, e7, e9, him, himI]
        simp [h3, h7, h9, h13, h14, e3, e7, e9]
        intro bc hbc
        obtain ⟨l', g1, g2, g3⟩ := hgo i
        have hpl : ACalls Try.prog 14 [r.av, listI (intL l), .osl bc 0 1 1] (H.upd bc (.cells [.int .i64 (i : Int)])) fun a h => a = .tup [listI (playO r (intL l) [(i : Int)]).1, .int .i64 (playO r (intL l) [(i : Int)]).2] ∧ h = H.upd bc (.cells [.int .i64 (i : Int)]) := own_call (w_Play r hr (intL l) (by simp [intL, hcf.len]; omega) [(i : Int)] (by simp) (some bc) (by simp)) (H := H) hbc
        rw [g3, hav, ← hla] at hpl
        have k7 := ne_fresh (e7 0) hbc
        have hlm' := g1.len
        have hlne' : ¬ l' = [] := fun e => by rw [e] at hlm'; simp at hlm'; omega
        rw [← natsA_int l' hlne'] at hpl
        simp [h3, h7, h9, h13, h14, e3, e7, e9, k7]
        refine hpl.use ?_
        simp [h3, h7, h9, h13, h14, e3, e7, e9]
        refine turnA_to H (Drop.new (Drop.refl _) hbc) ⟨⟨i + 1, l'⟩, by simp only; omega, by simp only; omega, g1, g2, by simp [h3, h7, h9, h13, h14, hwi]⟩
  · have hltI : ¬ (i : Int) < (mo : Int) + 12 := by omega
    simp [h3, h7, h9, h13, h14, e3, e7, e9, hwt, hlt, hltI]
    refine caw.use ?_
    simp
    exact finA_drop rfl
end Go.Proofs
