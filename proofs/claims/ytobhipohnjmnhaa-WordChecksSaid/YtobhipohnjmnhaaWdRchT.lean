/-
  Walk: reached, over pairs of states.
-/
import Derived.Test.YtobhipohnjmnhaaV1
set_option linter.unusedSimpArgs false
set_option linter.unusedVariables false
set_option linter.unusedSectionVars false
namespace Go.Proofs
open Go Go.AH
set_option maxRecDepth 10000
set_option maxHeartbeats 4000000
structure Tw where
  a : Nat
  b : Nat
  deriving DecidableEq
def twA (x : Tw) : AV := .agg [.int .i64 (x.a : Int), .int .i64 (x.b : Int)]
/-- Two cells a pair. -/
def fl (l : List Tw) : List AV := l.flatMap fun x => [.int .i64 (x.a : Int), .int .i64 (x.b : Int)]
def twosA (l : List Tw) : AV := .sl l.length (fl l)
theorem fl_nil : fl [] = [] := rfl
theorem fl_app (a b : List Tw) : fl (a ++ b) = fl a ++ fl b := by simp [fl]
theorem fl_one (x : Tw) : fl [x] = [.int .i64 (x.a : Int), .int .i64 (x.b : Int)] := rfl
@[simp] theorem fl_len (l : List Tw) : (fl l).length = l.length * 2 := by
  induction l with
  | nil => rfl
  | cons x l ih => simp only [fl, List.flatMap_cons, List.length_append, List.length_cons, List.length_nil] at ih ⊢; omega
theorem fl_drop : ∀ (l : List Tw) (a : Nat) (x : Tw), l[a]? = some x → ∃ r, (fl l).drop (a * 2) = .int .i64 (x.a : Int) :: .int .i64 (x.b : Int) :: r
  | [], a, x, h => by simp at h
  | y :: l, 0, x, h => by
    simp only [List.getElem?_cons_zero, Option.some.injEq] at h
    subst h
    exact ⟨fl l, rfl⟩
  | y :: l, a + 1, x, h => by
    obtain ⟨r, hr⟩ := fl_drop l a x (by simpa using h)
    refine ⟨r, ?_⟩
    rw [← hr, show (a + 1) * 2 = a * 2 + 2 from by omega]
    simp [fl]
theorem fl_frozen {l : List Tw} : ∀ a ∈ fl l, a.frozen = true := by
  intro a ha
  simp only [fl, List.mem_flatMap, List.mem_cons, List.mem_nil_iff, or_false] at ha
  obtain ⟨x, _, rfl | rfl⟩ := ha <;> rfl
theorem fl_one' {l : List Tw} : ∀ a ∈ fl l, a.one = true := by
  intro a ha
  simp only [fl, List.mem_flatMap, List.mem_cons, List.mem_nil_iff, or_false] at ha
  obtain ⟨x, _, rfl | rfl⟩ := ha <;> rfl
theorem twA_inj : ∀ x y : Tw, twA x = twA y → x = y := fun x y e => by
  have h := List.cons.inj (AV.agg.inj e)
  have h1 := (AV.int.inj h.1).2
  have h2 := (AV.int.inj (List.cons.inj h.2).1).2
  cases x; cases y; simp only at h1 h2; simp only [Tw.mk.injEq]; omega
theorem w_reachedT (start : Tw) (k : Nat) (hk4 : k ≤ 4) (hk1 : 1 ≤ k) (most : Int) (next : AV) (ν : Tw → Nat → Tw) (Inv : Tw → Prop) (hst : Inv start) (hinv : ∀ x i, Inv x → i < k → Inv (ν x i)) (H : AHeap)
    (hν : ∀ x i, Inv x → i < k → ACallV Try.prog next [twA x, .int .i64 (i : Int)] H fun r h' => r = twA (ν x i) ∧ h' = H)
    (F : Nat) (hF0 : F ≤ 100000000) (hF1 : 1 ≤ F) (hF : ∀ a st, a < F → rIter ν most k start a = some st → a < st.1.length) (hE : ∀ st, rIter ν most k start F = some st → st.1.length = F) :
    ACalls Try.prog 80 [twA start, .int .i64 k, .int .i64 most, next] H fun r h' => r = rchA twosA (rIter ν most k start F) ∧ h' = H := by
  refine acalls_of Try.func80 rfl Try.call80 (by kernel_rfl) (by show _ ≤ (71 : Nat); simp) ?_
  have hinj := twA_inj
  simp [twA]
  intro b4 hb4
  simp
  intro bm hbm
  simp at hbm
  have hz : zcells [.int .i64 0, .int .i64 0] 1 = [.int .i64 0, .int .i64 0] := rfl
  have hsp : ∀ a b : AV, splice [.int .i64 0, .int .i64 0] 0 [a, b] = [a, b] := fun _ _ => rfl
  simp [hbm, hz, hsp]
  intro bk0 hbk0
  simp at hbk0
  simp [hbm, hbk0]
  have hlp : ∀ t : AF, ∀ h : AHeap, HLe H h → True := fun _ _ _ => trivial
  refine awp_loop_g (γ := RchG Tw) (fun g t h => (g.a ≤ F) ∧ (rIter ν most k start g.a = some (g.keys, g.rows)) ∧ (HLe H h) ∧ (∀ x ∈ g.keys, Inv x) ∧ (mapAt h (.map bm) = some (bm, .many [.i .i64, .i .i64], numE twA g.keys 0)) ∧ (∀ off, cellsAt h g.bk off = some ((fl g.keys).drop off)) ∧ (Fresh H g.bk ∧ ∀ b, g.o = some b → Fresh H b ∧ ¬ b = g.bk ∧ ¬ g.bk = b ∧ cellsAt h b 0 = some (g.rows.map natsA)) ∧ (g.o = none → g.rows = []) ∧ t 1 = .int .i64 k ∧ t 2 = .int .i64 most ∧ t 3 = next ∧ t 8 = .osl g.bk 0 g.keys.length 2 ∧ t 9 = ownV g.o g.rows.length 1 ∧ t 11 = .map bm ∧ t 12 = .int .i64 g.a) (fun g => F - g.a) (⟨0, [start], [], bk0, none⟩) (turnA_self (by simp [rIter, hst, ((HLe.refl H).new hb4).new hbm.2.2, (((HLe.refl H).new hb4).new hbm.2.2).new hbk0.2.2.2.2, numE, mapSet, hbk0, hbm, fl, twA])) ?_
  rintro g t h ⟨ha, hit, hle, hInv, hm, hkb, hfr, hno, h1, h2, h3, h8, h9, h11, h12⟩
  obtain ⟨a, keys, rows, bk, o⟩ := g
  simp only at h1 h2 h3 h8 h9 h11 h12 ha hit hInv hm hkb hfr hno
  have hl := rIter_len ν most k start a _ hit
  simp only at hl
  have hkl : keys.length ≤ 400000001 := by
    have : k * a ≤ 4 * 100000000 := Nat.mul_le_mul hk4 (by omega)
    omega
  by_cases hlt : a < F
  · have hak := hF a _ hlt hit
    simp only at hak
    simp [h1, h2, h3, h8, h9, h11, h12, hak]
    obtain ⟨x, hx⟩ : ∃ x, keys[a]? = some x := ⟨keys[a], by simp [hak]⟩
    have hxI : Inv x := hInv x (List.mem_of_getElem? hx)
    refine awp_loop_t (γ := RowG Tw) (fun g t h => (g.i ≤ k) ∧ (rRow ν most x keys g.i = some (g.ks, g.row)) ∧ (HLe H h) ∧ (∀ x ∈ g.ks, Inv x) ∧ (mapAt h (.map bm) = some (bm, .many [.i .i64, .i .i64], numE twA g.ks 0)) ∧ (∀ off, cellsAt h g.bk off = some ((fl g.ks).drop off)) ∧ (Fresh H g.bk) ∧ (∀ b, o = some b → ¬ b = g.bk ∧ ¬ g.bk = b ∧ cellsAt h b 0 = some (rows.map natsA)) ∧ (∀ b, g.r = some b → Fresh H b ∧ ¬ b = g.bk ∧ ¬ g.bk = b ∧ (∀ c, o = some c → ¬ c = b ∧ ¬ b = c) ∧ cellsAt h b 0 = some (g.row.map fun x : Nat => AV.int .i64 (x : Int))) ∧ (g.r = none → g.row = []) ∧ t 1 = .int .i64 k ∧ t 2 = .int .i64 most ∧ t 3 = next ∧ t 8 = .osl g.bk 0 g.ks.length 2 ∧ t 9 = ownV o rows.length 1 ∧ t 11 = .map bm ∧ t 12 = .int .i64 a ∧ t 13 = ownV g.r g.row.length 1 ∧ t 29 = .int .i64 k ∧ t 30 = .int .i64 g.i) (fun g => k - g.i) (⟨0, keys, [], bk, none⟩) (turnA_self (by simp [h1, h2, h3, h8, h9, h11, h12, rRow, hle, hm, hkb, hfr, hInv]; exact ⟨hInv, fun b hb => ⟨(hfr.2 b hb).2.1, (hfr.2 b hb).2.2⟩⟩)) ?_
    rintro g t h ⟨hi, hrow, hle, hInv, hm, hkb, hfk, hfo, hfr2, hno2, h1, h2, h3, h8, h9, h11, h12, h13, h29, h30⟩
    obtain ⟨i, ks, row, bk', r⟩ := g
    simp only at h1 h2 h3 h8 h9 h11 h12 h13 h29 h30 hi hrow hInv hm hkb hfk hfo hfr2 hno2
    obtain ⟨hl1, hl2, hl3⟩ := rRow_len ν most x keys i _ hrow
    simp only at hl1 hl2 hl3
    by_cases hlti : i < k
    · obtain ⟨E, hE⟩ := rRow_pre ν most x keys i _ hrow
      simp only at hE
      have hxk : ks[a]? = some x := by rw [hE, List.getElem?_append_left hak]; exact hx
      have haks : a < ks.length := by omega
      have hxk' : ks[a] = x := by rw [List.getElem?_eq_getElem haks] at hxk; exact Option.some.inj hxk
      have hmk := ne_cells_map (hkb 0) hm
      obtain ⟨rr, hdr⟩ := fl_drop ks a x hxk
      simp [h1, h2, h3, h8, h9, h11, h12, h13, h29, h30, hlti, haks, hkb, hdr]
      refine ((hν x i hxI hlti).le hle).use ?_
      simp only [twA]
      simp
      intro b15 hb15
      have n15 := ne_map hm hb15; have m15 := ne_fresh (hkb 0) hb15
      obtain ⟨kx, hkx⟩ : ∃ kx, kx = ν x i := ⟨_, rfl⟩
      rw [← hkx]
      simp [hz, hsp, h1, h2, h3, h8, h9, h11, h12, h13, h29, h30, n15]
      obtain ⟨hA, hhA⟩ : ∃ hA, hA = h.upd b15 (.cells [.int .i64 (kx.a : Int), .int .i64 (kx.b : Int)]) := ⟨_, rfl⟩
      rw [← hhA]
      have hle2 : HLe H hA := by rw [hhA]; exact hle.new (hle.fresh hb15)
      have hm2 : mapAt hA (.map bm) = some (bm, .many [.i .i64, .i .i64], numE twA ks 0) := by rw [hhA]; simp [n15, hm]
      have hkb2 : ∀ off, cellsAt hA bk' off = some ((fl ks).drop off) := by intro off; rw [hhA]; simp [m15, hkb]
      have hfo2 : ∀ b, o = some b → ¬ b = bk' ∧ ¬ bk' = b ∧ cellsAt hA b 0 = some (rows.map natsA) := by
        intro b hb
        obtain ⟨q1, q2, q3⟩ := hfo b hb
        have q6 := ne_fresh q3 hb15
        refine ⟨q1, q2, ?_⟩
        rw [hhA]; simp [q6, q3]
      have hfr3 : ∀ b, r = some b → Fresh H b ∧ ¬ b = bk' ∧ ¬ bk' = b ∧ (∀ c, o = some c → ¬ c = b ∧ ¬ b = c) ∧ cellsAt hA b 0 = some (row.map fun x : Nat => AV.int .i64 (x : Int)) := by
        intro b hb
        obtain ⟨q0, q1, q2, q7, q3⟩ := hfr2 b hb
        have q6 := ne_fresh q3 hb15
        refine ⟨q0, q1, q2, q7, ?_⟩
        rw [hhA]; simp [q6, q3]
      have hc15 : ∀ off, cellsAt hA b15 off = some (([.int .i64 (kx.a : Int), .int .i64 (kx.b : Int)] : List AV).drop off) := by intro off; rw [hhA]; simp
      have hf15 : Fresh H b15 := hle.fresh hb15
      have hm0 := hm
      clear hhA hm hkb hfo hfr2 hle hb15 hmk
      have hle := hle2; have hm := hm2; have hkb := hkb2; have hfo := hfo2; have hfr2 := hfr3
      clear hle2 hm2 hkb2 hfo2 hfr3
      have hmk := ne_cells_map (hkb 0) hm
      have hget := mapGet_num twA hinj (ν x i) ks 0
      have hset := mapSet_num twA hinj (ν x i) ks 0
      simp only [Nat.zero_add] at hget hset
      have hsucc := rRow_succ ν most x keys i
      rw [hrow] at hsucc
      simp only [rStep, Option.bind_some] at hsucc
      have hw : IntKind.i64.wrap ((i : Int) + 1) = (i : Int) + 1 := wrap_i64 (by omega) (by omega)
      rw [← hkx] at hget hset hsucc
      simp only [twA] at hget hset
      by_cases hmem : kx ∈ ks
      · rw [if_pos hmem] at hget hsucc
        rcases r with _ | r
        · obtain rfl := hno2 rfl
          simp [h1, h2, h3, h8, h9, h11, h12, h13, h29, h30, hm0, hget]
          intro b1 hb1
          simp [h1, h2, h3, h8, h9, h11, h12, h13, h29, h30]
          intro b2 hb2
          simp at hb2
          simp [h1, h2, h3, h8, h9, h11, h12, h13, h29, h30, hw]
          have g2 : Fresh H b2 ∧ (¬ bm = b2 ∧ ¬ b2 = bm) ∧ (¬ bk' = b2 ∧ ¬ b2 = bk') ∧ ∀ c, o = some c → (¬ c = b2 ∧ ¬ b2 = c) :=
            ⟨hle.fresh hb2.2.2, ne_map hm hb2.2.2, ne_fresh (hkb 0) hb2.2.2, fun c hc => ne_fresh (hfo c hc).2.2 hb2.2.2⟩
          have n1 := ne_map hm hb1; have m1 := ne_fresh (hkb 0) hb1
          refine turnA_self ⟨⟨i + 1, ks, [] ++ [ixF ks (kx)], bk', some b2⟩, by simp only; omega, by simp only; omega, hsucc, (hle.new (hle.fresh hb1)).new g2.1, hInv, by simp [n1, g2, hm], by simp [m1, g2, hkb], hfk, ?_, ?_, by simp, by simp [h1, h2, h3, h8, h9, h11, h12, h13, h29, h30, hw]⟩
          · intro b hb
            obtain ⟨q1, q2, q3⟩ := hfo b hb
            have q4 := g2.2.2.2 b hb
            simp [q1, q2, q3, ne_fresh q3 hb1, q4]
          · intro b hb
            cases hb
            simp [g2]
            exact fun c hc => g2.2.2.2 c hc
        · have hr := hfr2 r rfl
          have mr := ne_cells_map hr.2.2.2.2 hm
          simp [h1, h2, h3, h8, h9, h11, h12, h13, h29, h30, hm0, hget]
          intro b1 hb1
          have mr1 := ne_fresh hr.2.2.2.2 hb1
          simp [h1, h2, h3, h8, h9, h11, h12, h13, h29, h30, hr, mr1]
          refine ⟨by omega, ?_⟩
          intro b2 hb2
          simp [mr1] at hb2
          simp [h1, h2, h3, h8, h9, h11, h12, h13, h29, h30, hw]
          have g2 : Fresh H b2 ∧ (¬ bm = b2 ∧ ¬ b2 = bm) ∧ (¬ bk' = b2 ∧ ¬ b2 = bk') ∧ ∀ c, o = some c → (¬ c = b2 ∧ ¬ b2 = c) := by
            rcases hb2.2.2 with rfl | f2
            · exact ⟨hr.1, mr.symm, ⟨hr.2.2.1, hr.2.1⟩, fun c hc => hr.2.2.2.1 c hc⟩
            · exact ⟨hle.fresh f2, ne_map hm f2, ne_fresh (hkb 0) f2, fun c hc => ne_fresh (hfo c hc).2.2 f2⟩
          have n1 := ne_map hm hb1; have m1 := ne_fresh (hkb 0) hb1
          refine turnA_self ⟨⟨i + 1, ks, row ++ [ixF ks (kx)], bk', some b2⟩, by simp only; omega, by simp only; omega, hsucc, ((hle.del hr.1).new (hle.fresh hb1)).new g2.1, hInv, by simp [n1, g2, hm, mr], by simp [m1, g2, hkb, hr], hfk, ?_, ?_, by simp, by simp [h1, h2, h3, h8, h9, h11, h12, h13, h29, h30, hw]⟩
          · intro b hb
            obtain ⟨q1, q2, q3⟩ := hfo b hb
            have q4 := g2.2.2.2 b hb
            have q5 := hr.2.2.2.1 b hb
            simp [q1, q2, q3, ne_fresh q3 hb1, q4, q5]
          · intro b hb
            cases hb
            simp [g2]
            exact fun c hc => g2.2.2.2 c hc
      · rw [if_neg hmem] at hget hsucc
        by_cases hmost : (ks.length : Int) = most
        · rw [if_pos hmost] at hsucc
          simp [h1, h2, h3, h8, h9, h11, h12, h13, h29, h30, hm0, hget, hmost]
          refine turnA_self ?_
          have hnone : rIter ν most k start F = none := by
            refine rIter_none ν most k start (a + 1) F ?_ (by omega)
            simp only [rIter, hit, Option.bind_some, hx]
            rw [rRow_none ν most x keys (i + 1) k hsucc (by omega)]; rfl
          rw [hnone]
          simp [h1, h2, h3, h8, h9, h11, h12, h13, h29, h30]
          exact finA_to 0 H hle.drop ⟨rfl, rfl⟩
        · rw [if_neg hmost] at hsucc
          have hset' := hset hmem
          simp [h1, h2, h3, h8, h9, h11, h12, h13, h29, h30, hm0, hm, hget, hmost, hset', hc15, n15, hz, hsp]
          intro b3 hb3
          simp [hmk] at hb3
          have mk3 := ne_fresh (hkb 0) hb3.2.2
          have hkb0 := hkb 0
          simp only [List.drop_zero] at hkb0
          simp [h1, h2, h3, h8, h9, h11, h12, h13, h29, h30, hkb, mk3, hmk]
          refine ⟨by omega, ?_⟩
          intro b4 hb4
          simp [hmk, mk3] at hb4
          simp [h1, h2, h3, h8, h9, h11, h12, h13, h29, h30]
          have g4 : Fresh H b4 ∧ (∀ c, o = some c → (¬ c = b4 ∧ ¬ b4 = c)) ∧ (∀ c, r = some c → (¬ c = b4 ∧ ¬ b4 = c)) := by
            rcases hb4.2.2.2.2 with rfl | f4
            · exact ⟨hfk, fun c hc => ⟨(hfo c hc).1, (hfo c hc).2.1⟩, fun c hc => ⟨(hfr2 c hc).2.1, (hfr2 c hc).2.2.1⟩⟩
            · exact ⟨hle.fresh f4, fun c hc => ne_fresh (hfo c hc).2.2 f4, fun c hc => ne_fresh (hfr2 c hc).2.2.2.2 f4⟩
          have hmF : Fresh H bm := hbm.2.2
          obtain ⟨hX, hhX⟩ : ∃ hX, hX = ((((hA.del bk').upd bm (.map (KShape.many [KK.i .i64, KK.i .i64]) (numE twA (ks ++ [kx]) 0))).upd b3 (.cells [.int .i64 (kx.a : Int), .int .i64 (kx.b : Int)])).upd b4 (.cells (fl ks ++ [.int .i64 (kx.a : Int), .int .i64 (kx.b : Int)]))) := ⟨_, rfl⟩
          rw [← hhX]
          have hle2 : HLe H hX := by rw [hhX]; exact (((hle.del hfk).new hmF).new (hle.fresh hb3.2.2)).new g4.1
          have hm2 : mapAt hX (.map bm) = some (bm, .many [.i .i64, .i .i64], numE twA (ks ++ [kx]) 0) := by rw [hhX]; simp [hb3, hb4, hmk]
          have hkb2 : ∀ off, cellsAt hX b4 off = some ((fl (ks ++ [kx])).drop off) := by intro off; rw [hhX]; simp [fl_app, fl_one]
          have hfo2 : ∀ b, o = some b → ¬ b = b4 ∧ ¬ b4 = b ∧ cellsAt hX b 0 = some (rows.map natsA) := by
            intro b hb
            obtain ⟨q1, q2, q3⟩ := hfo b hb
            have q4 := g4.2.1 b hb
            have q5 := ne_cells_map q3 hm
            have q6 := ne_fresh q3 hb3.2.2
            refine ⟨q4.1, q4.2, ?_⟩
            rw [hhX]; simp [q4, q5, q6, q1, q3]
          have hfr3 : ∀ b, r = some b → Fresh H b ∧ ¬ b = b4 ∧ ¬ b4 = b ∧ (∀ c, o = some c → ¬ c = b ∧ ¬ b = c) ∧ cellsAt hX b 0 = some (row.map fun x : Nat => AV.int .i64 (x : Int)) := by
            intro b hb
            obtain ⟨q0, q1, q2, q7, q3⟩ := hfr2 b hb
            have q4 := g4.2.2 b hb
            have q5 := ne_cells_map q3 hm
            have q6 := ne_fresh q3 hb3.2.2
            refine ⟨q0, q4.1, q4.2, q7, ?_⟩
            rw [hhX]; simp [q4, q5, q6, q1, q3]
          have hInv2 : ∀ y ∈ ks ++ [kx], Inv y := by
            intro y hy
            rcases List.mem_append.1 hy with q | q
            · exact hInv y q
            · rw [List.mem_singleton.1 q, hkx]; exact hinv x i hxI hlti
          have hlen2 : (ks ++ [kx]).length = ks.length + 1 := by simp
          clear hhX hm hkb hkb0 hfo hfr2 hle hInv hmk hxk hxk' haks hset' hget hset hmem hE mk3
          have hle := hle2; have hm := hm2; have hkb := hkb2; have hfo := hfo2; have hfr2 := hfr3; have hInv := hInv2
          have hfk := g4.1
          clear hle2 hm2 hkb2 hfo2 hfr3 hInv2
          obtain ⟨ks2, hks2⟩ : ∃ ks2, ks2 = ks ++ [kx] := ⟨_, rfl⟩
          rw [← hks2] at hsucc hm hkb hInv hlen2
          obtain ⟨bk2, hbk2⟩ : ∃ bk2, bk2 = b4 := ⟨_, rfl⟩
          rw [← hbk2] at hkb hfo hfr2 hfk ⊢
          have hlen3 : (ks.length : Int) + 1 = ks2.length := by omega
          rcases r with _ | r
          · obtain rfl := hno2 rfl
            skip
            intro b1 hb1
            simp [h1, h2, h3, h8, h9, h11, h12, h13, h29, h30]
            intro b2 hb2
            simp at hb2
            simp [h1, h2, h3, h8, h9, h11, h12, h13, h29, h30, hw]
            have g2 : Fresh H b2 ∧ (¬ bm = b2 ∧ ¬ b2 = bm) ∧ (¬ bk2 = b2 ∧ ¬ b2 = bk2) ∧ ∀ c, o = some c → (¬ c = b2 ∧ ¬ b2 = c) :=
              ⟨hle.fresh hb2.2.2, ne_map hm hb2.2.2, ne_fresh (hkb 0) hb2.2.2, fun c hc => ne_fresh (hfo c hc).2.2 hb2.2.2⟩
            have n1 := ne_map hm hb1; have m1 := ne_fresh (hkb 0) hb1
            refine turnA_self ⟨⟨i + 1, ks2, [] ++ [ks.length], bk2, some b2⟩, by simp only; omega, by simp only; omega, hsucc, (hle.new (hle.fresh hb1)).new g2.1, hInv, by simp [n1, g2, hm], by simp [m1, g2, hkb], hfk, ?_, ?_, by simp, by simp [h1, h2, h3, h8, h9, h11, h12, h13, h29, h30, hlen2]⟩
            · intro b hb
              obtain ⟨q1, q2, q3⟩ := hfo b hb
              have q4 := g2.2.2.2 b hb
              simp [q1, q2, q3, ne_fresh q3 hb1, q4]
            · intro b hb
              cases hb
              simp [g2]
              exact fun c hc => g2.2.2.2 c hc
          · have hr := hfr2 r rfl
            have mr := ne_cells_map hr.2.2.2.2 hm
            skip
            intro b1 hb1
            have mr1 := ne_fresh hr.2.2.2.2 hb1
            simp [h1, h2, h3, h8, h9, h11, h12, h13, h29, h30, hr, mr1]
            refine ⟨by omega, ?_⟩
            intro b2 hb2
            simp [mr1] at hb2
            simp [h1, h2, h3, h8, h9, h11, h12, h13, h29, h30, hw]
            have g2 : Fresh H b2 ∧ (¬ bm = b2 ∧ ¬ b2 = bm) ∧ (¬ bk2 = b2 ∧ ¬ b2 = bk2) ∧ ∀ c, o = some c → (¬ c = b2 ∧ ¬ b2 = c) := by
              rcases hb2.2.2 with rfl | f2
              · exact ⟨hr.1, mr.symm, ⟨hr.2.2.1, hr.2.1⟩, fun c hc => hr.2.2.2.1 c hc⟩
              · exact ⟨hle.fresh f2, ne_map hm f2, ne_fresh (hkb 0) f2, fun c hc => ne_fresh (hfo c hc).2.2 f2⟩
            have n1 := ne_map hm hb1; have m1 := ne_fresh (hkb 0) hb1
            refine turnA_self ⟨⟨i + 1, ks2, row ++ [ks.length], bk2, some b2⟩, by simp only; omega, by simp only; omega, hsucc, ((hle.del hr.1).new (hle.fresh hb1)).new g2.1, hInv, by simp [n1, g2, hm, mr], by simp [m1, g2, hkb, hr], hfk, ?_, ?_, by simp, by simp [h1, h2, h3, h8, h9, h11, h12, h13, h29, h30, hlen2]⟩
            · intro b hb
              obtain ⟨q1, q2, q3⟩ := hfo b hb
              have q4 := g2.2.2.2 b hb
              have q5 := hr.2.2.2.1 b hb
              simp [q1, q2, q3, ne_fresh q3 hb1, q4, q5]
            · intro b hb
              cases hb
              simp [g2]
              exact fun c hc => g2.2.2.2 c hc
    · obtain rfl : i = k := by omega
      rcases r with _ | r
      · have := hno2 rfl
        rw [this] at hl1; simp at hl1; omega
      have hr := hfr2 r rfl
      have mr := ne_cells_map hr.2.2.2.2 hm
      simp [h1, h2, h3, h8, h9, h11, h12, h13, h29, h30]
      refine turnA_row 13 r (n := row.length) (es := 1) (cs := row.map fun x : Nat => AV.int .i64 (x : Int)) h13 (by simp [hr]) (by simp) nats_frozen ?_
      have hrowA : AV.sl row.length (row.map fun x : Nat => AV.int .i64 (x : Int)) = natsA row := rfl
      rw [hrowA]
      have hit1 : rIter ν most i start (a + 1) = some (ks, rows ++ [row]) := by
        simp only [rIter, hit, Option.bind_some, hx, hrow, Option.map_some]
      have hwa : IntKind.i64.wrap ((a : Int) + 1) = (a : Int) + 1 := wrap_i64 (by omega) (by omega)
      have hleD := hle.del hr.1
      have gF : ∀ c, (c = r ∨ Fresh h c) → Fresh H c ∧ (¬ bm = c ∧ ¬ c = bm) ∧ (¬ bk' = c ∧ ¬ c = bk') ∧ ∀ b, o = some b → ¬ b = c ∧ ¬ c = b := by
        intro c hc
        rcases hc with rfl | f2
        · exact ⟨hr.1, mr.symm, ⟨hr.2.2.1, hr.2.1⟩, fun c hc => hr.2.2.2.1 c hc⟩
        · exact ⟨hle.fresh f2, ne_map hm f2, ne_fresh (hkb 0) f2, fun c hc => ne_fresh (hfo c hc).2.2 f2⟩
      rcases o with _ | o
      · obtain rfl := hno rfl
        simp [h1, h2, h3, h8, h9, h11, h12, h13, h29, h30]
        intro b1 hb1
        simp at hb1
        simp [h1, h2, h3, h8, h9, h11, h12, h13, h29, h30]
        intro b2 hb2
        simp at hb2
        simp [h1, h2, h3, h8, h9, h11, h12, h13, h29, h30, hwa]
        have g1 := gF b1 hb1; have g2 := gF b2 hb2.2.2
        refine turnA_self ⟨⟨a + 1, ks, [row], bk', some b2⟩, by simp only; omega, by simp only; omega, hit1, (hleD.new g1.1).new g2.1, hInv, by simp [g1, g2, hm, mr], by simp [g1, g2, hkb, hr], ⟨hfk, ?_⟩, by simp, by simp [h1, h2, h3, h8, h9, h11, h12, h13, h29, h30]⟩
        intro b hb
        cases hb
        simp [g2]
      · obtain ⟨q1, q2, q3⟩ := hfo o rfl
        have q4 := hr.2.2.2.1 o rfl
        have q5 := ne_cells_map q3 hm
        simp [h1, h2, h3, h8, h9, h11, h12, h13, h29, h30]
        intro b1 hb1
        simp at hb1
        have g1 := gF b1 hb1
        have g3 := g1.2.2.2 o rfl
        simp [h1, h2, h3, h8, h9, h11, h12, h13, h29, h30, g3, q4, q3]
        have hrl : rows.length ≤ 100000000 := by
          have := rIter_rows ν most i start a _ (fun b st hb => hF b st (by omega)) hit
          simp only at this; omega
        refine ⟨by omega, ?_⟩
        intro b2 hb2
        simp at hb2
        have g2 : Fresh H b2 ∧ (¬ bm = b2 ∧ ¬ b2 = bm) ∧ (¬ bk' = b2 ∧ ¬ b2 = bk') := by
          have : b2 = o ∨ b2 = r ∨ Fresh h b2 := by simp_all
          rcases this with rfl | this
          · exact ⟨(hfr.2 b2 rfl).1, q5.symm, ⟨q2, q1⟩⟩
          · have := gF b2 this
            exact ⟨this.1, this.2.1, this.2.2.1⟩
        simp [h1, h2, h3, h8, h9, h11, h12, h13, h29, h30, hwa]
        refine turnA_self ⟨⟨a + 1, ks, rows ++ [row], bk', some b2⟩, by simp only; omega, by simp only; omega, hit1, ?_, hInv, by simp [g1, g2, hm, mr, q5], by simp [g1, g2, hkb, hr, q2], ⟨hfk, ?_⟩, by simp, by simp [h1, h2, h3, h8, h9, h11, h12, h13, h29, h30]⟩
        · exact ((hleD.del (hfr.2 o rfl).1).new g1.1).new g2.1
        · intro b hb
          cases hb
          simp [g2]
  · obtain rfl : a = F := by omega
    have hE1 := hE _ hit
    simp only at hE1
    have hrl := rIter_rows ν most k start a _ hF hit
    simp only at hrl
    rcases o with _ | o
    · have := hno rfl
      rw [this] at hrl; simp at hrl; omega
    obtain ⟨q0, q1, q2, q3⟩ := hfr.2 o rfl
    have hkb0 := hkb 0
    simp only [List.drop_zero] at hkb0
    simp [h1, h2, h3, h8, h9, h11, h12, hE1]
    refine finA_to 3 H hle.drop ⟨?_, rfl⟩
    rw [hit]
    simp [rchA, twosA, q0, hfr.1, q3, hkb0, hE1, hrl, natsA, nrowsA, strsA, List.take_of_length_le, map_frozen fl_frozen]
end Go.Proofs
