/-
  Ring: the law RingPlays.
-/
import Derived.Test.YtobdaaoefbgilaaRgH0
import Derived.Test.YtobdaaoefbgilaaRgP
set_option linter.unusedSimpArgs false
set_option linter.unusedVariables false
set_option linter.unusedSectionVars false
namespace Go.Proofs
open Go Go.AH
set_option maxRecDepth 10000
set_option maxHeartbeats 4000000

def modL (m : List Int) : Nat → List Int
  | 0 => m
  | i + 1 => (modL m i).set i (uM (m.getD i 0) 100 : Int)
@[simp] theorem modL_len (m : List Int) : ∀ i, (modL m i).length = m.length
  | 0 => rfl
  | i + 1 => by rw [modL, List.length_set, modL_len m i]
theorem modL_get (m : List Int) : ∀ (i j : Nat) (h : j < (modL m i).length) (h2 : j < m.length), i ≤ j → (modL m i)[j] = m[j]
  | 0, j, h, h2, _ => rfl
  | i + 1, j, h, h2, hij => by
    simp only [modL]
    rw [List.getElem_set_ne (by omega)]
    exact modL_get m i j _ h2 (by omega)
theorem playO_len {r : Rul} (hr : r.ok) {c m : List Int} : (playO r c m).1.length ≤ 1000000 := by
  unfold playO
  split
  · simp
  · next he =>
    split
    · simp
    · have key : ∀ (m : List Int) (l : List Nat), l.length = r.m → ∀ l', playR r l m = some l' → l'.length = r.m := by
        intro m
        induction m with
        | nil => intro l hl l' e; simp only [playR, Option.some.injEq] at e; subst e; exact hl
        | cons x m ih =>
          intro l hl l' e
          rw [playR] at e
          split at e
          · cases e
          · exact ih _ (by rw [stepF_len, hl]) l' e
      cases hp : playR r (natI c) m with
      | none => simp
      | some l' =>
        have hcfg := conf_cfg (by simpa using he : confE r c = 0)
        have := key m (natI c) hcfg.len l' hp
        have := hr.m6
        simp; omega

structure PL where
  k : Nat
  c : List Int
  m : List Int
theorem l_RingPlays (mach col : Int) (next : List (List Int)) (l0 l1 : List Int) (hn : next.length ≤ 20000000000000) (hrl : ∀ row ∈ next, row.length ≤ 20000000000000) (hl0 : l0.length ≤ 20000000000000) (hl1 : l1.length ≤ 20000000000000) :
    Pure Try.prog 3 [.agg [.int .i64 mach, .int .i64 col, rowsA next], .agg [intsA l0, intsA l1]] (.bool true) := by
  refine pure_of (acalls_of Try.func3 rfl Try.call3 (by kernel_rfl) (by show _ ≤ (90 : Nat); simp) ?_)
  have hr := tame_ok mach next l0.length
  have ct := l_tame mach col next l0.length hn hrl
  obtain ⟨r, hre⟩ : ∃ r, r = tameF mach next l0.length := ⟨_, rfl⟩
  rw [← hre] at hr ct
  have q1 := hr.m2; have q2 := hr.m6; have q3 := hr.c2; have q4 := hr.c6; have q5 := hr.sz
  have cg := l_give r
  have hav : r.av = .agg [.int .i64 r.m, .int .i64 r.c, rowsA r.next] := rfl
  have hCl := confF_len r l0
  have hCn : ¬ confF r l0 = [] := fun e => by rw [e] at hCl; simp at hCl; omega
  obtain ⟨CI, hCI⟩ : ∃ CI, CI = (confF r l0).map fun x : Nat => (x : Int) := ⟨_, rfl⟩
  have hCIl : CI.length ≤ 6 := by rw [hCI]; simp; omega
  have hCa : natsA (confF r l0) = listI CI := by rw [nats_ints, hCI, listI_ne (by simpa using hCn)]
  have e1 := l_config r hr l0 hl0
  have cw0 := l_rawP l0 8 hl0 (by omega)
  rw [hav] at ct cg e1
  simp
  intro b2 hb2
  simp
  intro b3 hb3
  simp at hb3
  simp [hb3, intsA]
  refine ct.use ?_
  simp
  intro b5 hb5
  simp at hb5
  simp [hb3, hb5]
  refine cg.use ?_
  simp
  intro b6 hb6
  simp at hb6
  simp [hb3, hb5, hb6]
  refine awp_draw_text (by kernel_rfl) [25] [(.fn (.func 13) [] [], [intsA l0, .int .i64 8], listI (l0.take 8))] (by kernel_rfl) (by kernel_rfl) (by simp; exact PureV.of cw0) ?_
  simp [hb3, hb5, hb6, gamGet_here, intsA]
  have e3l : intsA l0 = .sl l0.length (l0.map (.int .i64)) := rfl
  have e4l : intsA l1 = .sl l1.length (l1.map (.int .i64)) := rfl
  rw [← e3l, ← e4l]
  obtain ⟨H, hH⟩ : ∃ H, H = (((AHeap.empty.upd b2 (.cells [.int .i64 mach, .int .i64 col, rowsA next])).upd b3 (.cells [intsA l0, intsA l1])).upd b5 (.cells [.int .i64 r.m, .int .i64 r.c, rowsA r.next])).upd b6 (.cells [.int .i64 r.m, .int .i64 r.c, rowsA r.next]) := ⟨_, rfl⟩
  have x3 : ∀ off, cellsAt H b3 off = some (([intsA l0, intsA l1] : List AV).drop off) := by intro off; rw [hH]; simp [hb3, hb5, hb6]
  have x5 : ∀ off, cellsAt H b5 off = some (([.int .i64 r.m, .int .i64 r.c, rowsA r.next] : List AV).drop off) := by intro off; rw [hH]; simp [hb3, hb5, hb6]
  have x6 : ∀ off, cellsAt H b6 off = some (([.int .i64 r.m, .int .i64 r.c, rowsA r.next] : List AV).drop off) := by intro off; rw [hH]; simp [hb3, hb5, hb6]
  rw [← hH]
  clear hH
  refine ACalls.mono (l_rawH l1 30 hl1 (by omega) H) ?_
  rintro v h' ⟨o, rfl, rfl, ho, hof⟩
  obtain ⟨m0, hm0⟩ : ∃ m0, m0 = l1.take 30 := ⟨_, rfl⟩
  rw [← hm0] at ho ⊢
  have hml : m0.length ≤ 30 := by rw [hm0]; simp; omega
  have no : ∀ b off cs, cellsAt H b off = some cs → ¬ o = some b := fun b off cs e q => by
    subst q
    have : Fresh H b := hof
    unfold Fresh at this
    simp [cellsAt, this] at e
  have o3 := no b3 0 _ (x3 0)
  have o5 := no b5 0 _ (x5 0)
  have o6 := no b6 0 _ (x6 0)
  simp
  refine awp_loop_g (γ := PL) (fun q t h => (q.k ≤ 2) ∧ (q.c.length ≤ 8) ∧ (q.m.length = m0.length) ∧ t 2 = .ptr b2 0 ∧ t 3 = .ptr b3 0 ∧ t 5 = .ptr b5 0 ∧ t 6 = .ptr b6 0 ∧ t 7 = listI q.c ∧ t 8 = ownV o q.m.length 1 ∧ t 9 = .int .i64 q.k ∧ h = H.updO o (q.m.map (.int .i64))) (fun q => 2 - q.k) (⟨0, l0.take 8, m0⟩) (turnA_self (by simp; omega)) ?_
  rintro q t hx ⟨hk, hc, hm, h2, h3, h5, h6, h7, h8, h9, ex⟩
  rw [ex]
  clear ex
  obtain ⟨k, c, m⟩ := q
  simp only at h2 h3 h5 h6 h7 h8 h9 hk hc hm
  by_cases hlt : k < 2
  · have hltI : (k : Int) < 2 := by omega
    have hwk : IntKind.i64.wrap ((k : Int) + 1) = (k : Int) + 1 := wrap_i64 (by omega) (by omega)
    have hom : o = none ↔ m = [] := by
      rw [ho]
      constructor
      · intro e; rw [e] at hm; exact List.eq_nil_of_length_eq_zero hm
      · intro e; rw [e] at hm; exact List.eq_nil_of_length_eq_zero hm.symm
    have d1 := own_call (w_Play r hr c (by omega) m (by omega) o hom) hof
    have d2 := r_Config r hr c (by omega)
    rw [hav] at d1 d2
    simp [h2, h3, h5, h6, h7, h8, h9, hltI, x6, o6]
    refine d1.use ?_
    simp [h2, h3, h5, h6, h7, h8, h9, x5, o5]
    refine d2.use ?_
    by_cases he : confE r c = 0
    · have d3 := own_call (r_Play r hr c he m (by omega) o hom) hof
      have d4 := l_same (playO r c m).1 (playO r c m).1 (playO_len hr) (playO_len hr)
      rw [hav] at d3
      simp [h2, h3, h5, h6, h7, h8, h9, he, x5, o5]
      refine d3.use ?_
      simp [h2, h3, h5, h6, h7, h8, h9]
      refine d4.use ?_
      simp [h2, h3, h5, h6, h7, h8, h9, x5, o5, x3, o3]
      refine e1.use ?_
      simp [h2, h3, h5, h6, h7, h8, h9, hCa]
      refine awp_loop_g (γ := Nat) (fun i t h => (i ≤ m.length) ∧ t 2 = .ptr b2 0 ∧ t 3 = .ptr b3 0 ∧ t 5 = .ptr b5 0 ∧ t 6 = .ptr b6 0 ∧ t 7 = listI CI ∧ t 8 = ownV o m.length 1 ∧ t 9 = .int .i64 k ∧ t 15 = .int .i64 i ∧ h = H.updO o ((modL m i).map (.int .i64))) (fun i => m.length - i) (0) (turnA_self (by simp [h2, h3, h5, h6, h7, h8, h9, modL])) ?_
      rintro i t hy ⟨hi, h2, h3, h5, h6, h7, h8, h9, h15, ey⟩
      rw [ey]
      clear ey
      have hml2 : m.length ≤ 30 := by omega
      by_cases hil : i < m.length
      · have hilI : (i : Int) < (m.length : Int) := by omega
        have hwi : IntKind.i64.wrap ((i : Int) + 1) = (i : Int) + 1 := wrap_i64 (by omega) (by omega)
        cases o with
        | none =>
          have : m = [] := hom.1 rfl
          subst this
          simp at hil
        | some bm =>
          have hfm : Fresh H bm := hof
          obtain ⟨x, hx⟩ : ∃ x, x = m[i] := ⟨_, rfl⟩
          have hgx : m.getD i 0 = x := by simp [hil, hx]
          have hli : i < (modL m i).length := by rw [modL_len]; exact hil
          have hgi : (modL m i)[i]'hli = x := by rw [hx]; exact modL_get m i i hli hil (Nat.le_refl _)
          have hu := uM_lt (x := x) (n := 100) (by omega)
          obtain ⟨y, hy2⟩ : ∃ y, y = uM x 100 := ⟨_, rfl⟩
          rw [← hy2] at hu
          have v1 : (IntKind.u64.wrap x).tmod 100 = (y : Int) := by rw [hy2]; exact uM_mod (n := 100) (by omega)
          have v2 : IntKind.i64.wrap (y : Int) = (y : Int) := wrap_i64 (by omega) (by omega)
          have hset : ((modL m i).map (AV.int .i64)).set i (AV.int .i64 (y : Int)) = (modL m (i + 1)).map (AV.int .i64) := by rw [modL, hgx, ← hy2, List.map_set]
          have hi1 : i + 1 ≤ m.length := by omega
          simp [h2, h3, h5, h6, h7, h8, h9, h15, hil, hilI, hgi, v1, v2, hi1]
          refine turnA_self ⟨i + 1, by omega, by omega, by simp [h2, h3, h5, h6, h7, h8, h9, h15, hwi, hset]⟩
      · have hie : i = m.length := by omega
        have hilI : ¬ (i : Int) < (m.length : Int) := by omega
        have hfin : modL m i = modL m m.length := by rw [hie]
        cases o with
        | none =>
          have : m = [] := hom.1 rfl
          subst this
          have hi0 : i = 0 := by simpa using hie
          subst hi0
          simp [h2, h3, h5, h6, h7, h8, h9, h15]
          exact turnA_self ⟨⟨k + 1, CI, []⟩, by simp only; omega, by simp only; omega, by simp only; omega, hm, by simp [h2, h3, h5, h6, h7, h8, h9, h15, hwk]⟩
        | some bm =>
          simp [h2, h3, h5, h6, h7, h8, h9, h15, hil, hilI]
          exact turnA_self ⟨⟨k + 1, CI, modL m i⟩, by simp only; omega, by simp only; omega, by simp only; omega, by simp [hm], by simp [h2, h3, h5, h6, h7, h8, h9, h15, hwk]⟩
    · have hp : playO r c m = ([], confE r c) := by unfold playO; rw [if_pos he]
      have hln : listI [] = .nilsl := rfl
      simp [h2, h3, h5, h6, h7, h8, h9, he, hp, hln, x5, o5, x3, o3]
      refine e1.use ?_
      simp [h2, h3, h5, h6, h7, h8, h9, hCa]
      refine awp_loop_g (γ := Nat) (fun i t h => (i ≤ m.length) ∧ t 2 = .ptr b2 0 ∧ t 3 = .ptr b3 0 ∧ t 5 = .ptr b5 0 ∧ t 6 = .ptr b6 0 ∧ t 7 = listI CI ∧ t 8 = ownV o m.length 1 ∧ t 9 = .int .i64 k ∧ t 15 = .int .i64 i ∧ h = H.updO o ((modL m i).map (.int .i64))) (fun i => m.length - i) (0) (turnA_self (by simp [h2, h3, h5, h6, h7, h8, h9, modL])) ?_
      rintro i t hy ⟨hi, h2, h3, h5, h6, h7, h8, h9, h15, ey⟩
      rw [ey]
      clear ey
      have hml2 : m.length ≤ 30 := by omega
      by_cases hil : i < m.length
      · have hilI : (i : Int) < (m.length : Int) := by omega
        have hwi : IntKind.i64.wrap ((i : Int) + 1) = (i : Int) + 1 := wrap_i64 (by omega) (by omega)
        cases o with
        | none =>
          have : m = [] := hom.1 rfl
          subst this
          simp at hil
        | some bm =>
          have hfm : Fresh H bm := hof
          obtain ⟨x, hx⟩ : ∃ x, x = m[i] := ⟨_, rfl⟩
          have hgx : m.getD i 0 = x := by simp [hil, hx]
          have hli : i < (modL m i).length := by rw [modL_len]; exact hil
          have hgi : (modL m i)[i]'hli = x := by rw [hx]; exact modL_get m i i hli hil (Nat.le_refl _)
          have hu := uM_lt (x := x) (n := 100) (by omega)
          obtain ⟨y, hy2⟩ : ∃ y, y = uM x 100 := ⟨_, rfl⟩
          rw [← hy2] at hu
          have v1 : (IntKind.u64.wrap x).tmod 100 = (y : Int) := by rw [hy2]; exact uM_mod (n := 100) (by omega)
          have v2 : IntKind.i64.wrap (y : Int) = (y : Int) := wrap_i64 (by omega) (by omega)
          have hset : ((modL m i).map (AV.int .i64)).set i (AV.int .i64 (y : Int)) = (modL m (i + 1)).map (AV.int .i64) := by rw [modL, hgx, ← hy2, List.map_set]
          have hi1 : i + 1 ≤ m.length := by omega
          simp [h2, h3, h5, h6, h7, h8, h9, h15, hil, hilI, hgi, v1, v2, hi1]
          refine turnA_self ⟨i + 1, by omega, by omega, by simp [h2, h3, h5, h6, h7, h8, h9, h15, hwi, hset]⟩
      · have hie : i = m.length := by omega
        have hilI : ¬ (i : Int) < (m.length : Int) := by omega
        have hfin : modL m i = modL m m.length := by rw [hie]
        cases o with
        | none =>
          have : m = [] := hom.1 rfl
          subst this
          have hi0 : i = 0 := by simpa using hie
          subst hi0
          simp [h2, h3, h5, h6, h7, h8, h9, h15]
          exact turnA_self ⟨⟨k + 1, CI, []⟩, by simp only; omega, by simp only; omega, by simp only; omega, hm, by simp [h2, h3, h5, h6, h7, h8, h9, h15, hwk]⟩
        | some bm =>
          simp [h2, h3, h5, h6, h7, h8, h9, h15, hil, hilI]
          exact turnA_self ⟨⟨k + 1, CI, modL m i⟩, by simp only; omega, by simp only; omega, by simp only; omega, by simp [hm], by simp [h2, h3, h5, h6, h7, h8, h9, h15, hwk]⟩
  · have hltI : ¬ (k : Int) < 2 := by omega
    simp [h2, h3, h5, h6, h7, h8, h9, hltI]
    refine w_awake.use ?_
    simp
    exact finA_drop rfl
end Go.Proofs
