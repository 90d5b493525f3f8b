/-
  Texts: RgJ1 RgJ2 RgJ3 RgJ4 RgJ5.
-/
import Derived.Test.YtobdaaoefbgilaaRgH0
set_option linter.unusedSimpArgs false
set_option linter.unusedVariables false
set_option linter.unusedSectionVars false
section
/-
  Ring: the judge: newJudge, good; iterators that read a block of one's own.
-/
namespace Go.AH
open Go
/-- As Iter, where the heap keeps to S throughout. -/
def IterH (P : Program) (S : AHeap → Prop) (fv : AV) {α : Type} (enc : α → List AV) (L : List α) (fin : Bool) : Prop :=
  ∀ (γ : Type) (I : γ → AHeap → Prop) (step : γ → α → γ) (go : γ → Bool) (y : AV) (g0 : γ) (h0 : AHeap), (∀ g h, I g h → S h) → go g0 = true → I g0 h0 → (fin = true ∨ go (runIt step go g0 L) = false) →
    (∀ i g a h, L[i]? = some a → g = (L.take i).foldl step g0 → go g = true → I g h → ACallV P y (enc a) h fun r h' => r = .bool (go (step g a)) ∧ I (step g a) h') →
    ACallV P fv [y] h0 fun _ h' => I (runIt step go g0 L) h'

section
variable {P : Program} {N : Nat} {t : AF} {h : AHeap}
theorem awp_iterH {S : AHeap → Prop} (hSu : ∀ h l c, S h → h l = none → S (h.upd l c)) {g : Operand} {ps : Array Tmp} {asg b : Code} {Q : Exit → AF → AHeap → Prop} {f : FuncId} {first caps : List AV} {α : Type} {enc : α → List AV} {L : List α} {fin : Bool}
    (hg : evalA t g = .fn (.func f) first caps) (it : IterH P S (.fn (.func f) first caps) enc L fin) {γ : Type} (J : γ → AHeap → Prop) (hJS : ∀ g h, J g h → S h) (step : γ → α → γ) (jump : γ → Option Exit) (g0 : γ) (hj0 : jump g0 = none) (h0 : J g0 h)
    (hk1 : codeOk N asg = true) (hk2 : codeOk N b = true) (hps : ∀ p ∈ ps.toList, p < N) (hlen : ∀ a ∈ L, ps.size = (enc a).length)
    (hfin : fin = true ∨ (jump (runIt step (fun g => (jump g).isNone) g0 L)).isNone = false)
    (body : ∀ l i g a h, L[i]? = some a → g = (L.take i).foldl step g0 → jump g = none → J g h → awp P (some l) N asg (thenA (awp P (some l) N b (fun e _ h2 => e = (jump (step g a)).getD .normal ∧ ∃ h3, Drop h2 h3 ∧ J (step g a) h3)) (fun _ _ _ => False)) (putsA t ps.toList (enc a)) h)
    (hjump : ∀ g e, jump g = some e → e = .ret ∨ ∃ id, e = .exit id)
    (after : ∀ h', J (runIt step (fun g => (jump g).isNone) g0 L) h' → Q ((jump (runIt step (fun g => (jump g).isNone) g0 L)).getD .normal) t h') : AWP P none N (.rangeFunc g ps asg b) Q t h := by
  have jc : ∀ g, ∃ j, jumpOf ((jump g).getD .normal) = some j ∧ j.isNone = (jump g).isNone ∧ ∀ Q h, Q ((jump g).getD .normal) t h → afterA Q t h j := by
    intro g
    cases hj : jump g with
    | none => exact ⟨none, rfl, rfl, fun Q h q => q⟩
    | some e =>
      rcases hjump g e hj with rfl | ⟨id, rfl⟩
      · exact ⟨some .ret, rfl, rfl, fun Q h q => q⟩
      · exact ⟨some (.exit id), rfl, rfl, fun Q h q => q⟩
  refine awp_rangeF hg fun l r hl hr hp hN e1 e2 e3 => ?_
  have hp' : recOf r none = r := by
    cases r; simp only at hr hp; subst hr; subst hp; rfl
  refine ACalls.mono (ACalls.funcs (it γ (fun g h' => ∃ h1 j, h' = h1.upd l (.loop (recOf r j) t) ∧ h1 l = none ∧ J g h1 ∧ jumpOf ((jump g).getD .normal) = some j) step (fun g => (jump g).isNone) (.fn (.yield l) [] []) g0 _ (fun g h' => ?_) (by simp [hj0]) ⟨h, none, by rw [hp'], hl, h0, by simp [hj0, jumpOf]⟩ hfin ?_)) ?_
  · rintro ⟨h1, j, rfl, h1l, hJ, _⟩
    exact hSu _ _ _ (hJS _ _ hJ) h1l
  · rintro i g a h' ha hgi hgo ⟨h1, j, rfl, h1l, hJ, hj⟩
    have hjn : jump g = none := by simpa using hgo
    rw [hjn] at hj
    simp only [Option.getD_none, jumpOf, Option.some.injEq] at hj
    subst hj
    rw [hp', ACallV_yield]
    refine ayield_of h1l hr hN (by rw [e1]; exact hps) (by rw [e1]; exact hlen a (List.mem_of_getElem? ha)) (by rw [e2]; exact hk1) (by rw [e3]; exact hk2) ?_
    rw [e1, e2, e3]
    refine awp_mono _ _ _ _ _ (fun e t' h' q => ?_) (body l i g a h1 ha hgi hjn hJ)
    cases e <;> first | exact q | skip
    simp only [thenA_normal] at q ⊢
    refine awp_mono _ _ _ _ _ (fun e t2 h2 q => ?_) q
    obtain ⟨rfl, h3, hd, q⟩ := q
    obtain ⟨j, j1, j2, j3⟩ := jc (step g a)
    rw [j1]
    exact ⟨h3, hd, fun h2l => ⟨by rw [j2], h3, j, rfl, h2l, q, rfl⟩⟩
  · rintro r' h' ⟨h1, j, rfl, h1l, hJ, hj⟩
    obtain ⟨j', j1, j2, j3⟩ := jc (runIt step (fun g => (jump g).isNone) g0 L)
    rw [hj] at j1; cases j1
    exact ⟨h1, j, rfl, h1l, j3 _ _ (after _ hJ)⟩
end
end Go.AH
namespace Go.Proofs
open Go Go.AH
set_option maxRecDepth 10000
set_option maxHeartbeats 4000000

/-- The machines that are ready, for each configuration. -/
def readyL (r : Rul) (n : Nat) : List AV := (List.range n).map fun k => listA (readyF r (ofF r.c r.m k))
def jMoves (joint : Bool) (b : Nat) : AV := .fn (.func (if joint = true then 74 else 73)) [.ptr b 0] []
def jCells (r : Rul) (joint : Bool) (b : Nat) : List AV := [.int .i64 r.m, .int .i64 r.c, rowsA r.next, .int .i64 (r.size : Nat), .sl r.size (readyL r r.size), jMoves joint b]
/-- The judge's block. -/
def JAt (r : Rul) (joint : Bool) (b : Nat) (h : AHeap) : Prop := ∀ off, cellsAt h b off = some ((jCells r joint b).drop off)
theorem JAt.upd {r : Rul} {joint : Bool} {b : Nat} {h : AHeap} (e : JAt r joint b h) {l : Nat} {c : Chunk} (hl : h l = none) : JAt r joint b (h.upd l c) := by
  intro off
  have hne : b ≠ l := fun q => by have := e 0; subst q; simp [cellsAt, hl] at this
  have := e off
  unfold cellsAt at this ⊢
  rw [AHeap.upd_ne hne]
  exact this

theorem readyL_succ (r : Rul) (n : Nat) : readyL r (n + 1) = readyL r n ++ [listA (readyF r (ofF r.c r.m n))] := by simp [readyL, List.range_succ]
@[simp] theorem readyL_len (r : Rul) (n : Nat) : (readyL r n).length = n := by simp [readyL]

theorem w_newJudge (r : Rul) (hr : r.ok) (joint : Bool) : ACalls Try.prog 62 [r.av, .bool joint] AHeap.empty fun a h => ∃ b, a = .ptr b 0 ∧ h = AHeap.empty.upd b (.cells (jCells r joint b)) := by
  refine acalls_of Try.func62 rfl Try.call62 (by kernel_rfl) (by show _ ≤ (49 : Nat); simp) ?_
  have q1 := hr.m2; have q2 := hr.m6; have q3 := hr.c2; have q4 := hr.c6; have q5 := hr.sz
  have cs := w_size r.m r.c q1 q2 q3 q4 q5
  obtain ⟨S, hS⟩ : ∃ S, S = r.size := ⟨_, rfl⟩
  have hSp : (pw r.c r.m : Nat) = S := hS.symm
  rw [hSp] at cs
  simp only [Rul.av]
  simp
  intro b2 hb2
  simp
  refine awp_draw_text (by kernel_rfl) [12] [(.fn (.func 58) [] [], [.int .i64 r.m, .int .i64 r.c], .int .i64 (S : Int))] (by kernel_rfl) (by kernel_rfl) (by simp; exact PureV.of cs) ?_
  simp [gamGet_here, splice]
  intro b5 hb5
  simp at hb5
  simp [hb5]
  refine awp_loop_g (γ := At) (fun q t h => (q.i ≤ S) ∧ ((q.o = none ↔ q.i = 0) ∧ ¬ q.o = some b2 ∧ ¬ q.o = some b5) ∧ t 1 = .bool joint ∧ t 2 = .ptr b2 0 ∧ t 5 = .ptr b5 0 ∧ t 18 = .int .i64 S ∧ t 19 = .int .i64 q.i ∧ h = ((AHeap.empty.upd b2 (.cells [.int .i64 r.m, .int .i64 r.c, rowsA r.next])).upd b5 (.cells [.int .i64 r.m, .int .i64 r.c, rowsA r.next, .int .i64 S, ownV q.o q.i 1, .nilfn])).updO q.o (readyL r q.i)) (fun q => S - q.i) (⟨0, none⟩) (turnA_self (by simp [hb5, readyL])) ?_
  rintro q t h ⟨hi, ho, h1, h2, h5, h18, h19, rfl⟩
  obtain ⟨i, o⟩ := q
  simp only at h1 h2 h5 h18 h19 hi ho
  obtain ⟨ho1, ho2, ho3⟩ := ho
  by_cases hlt : i < S
  · have hwi : IntKind.i64.wrap ((i : Int) + 1) = (i : Int) + 1 := wrap_i64 (by omega) (by omega)
    have cf := of_cfg hr i
    have c1 := w_config r hr i (by omega)
    have c2 := w_ready r hr (ofF r.c r.m i) cf
    simp only [Rul.av] at c1 c2
    have hs := readyL_succ r i
    simp [h1, h2, h5, h18, h19, hlt, hb5]
    refine awp_draw_text (by kernel_rfl) [30, 31] [(.fn (.func 59) [] [], [.agg [.int .i64 r.m, .int .i64 r.c, rowsA r.next], .int .i64 i], cfgA (ofF r.c r.m i)),
      (.fn (.func 51) [] [], [.agg [.int .i64 r.m, .int .i64 r.c, rowsA r.next], cfgA (ofF r.c r.m i)], listA (readyF r (ofF r.c r.m i)))] (by kernel_rfl) (by kernel_rfl) (by simp; exact ⟨PureV.of c1, PureV.of c2⟩) ?_
    have hone : (listA (readyF r (ofF r.c r.m i))).one = true := by unfold listA; split <;> rfl
    simp [h1, h2, h5, h18, h19, hb5, ho2, ho3, gamGet_here, gamGet_cons, cfgA]
    intro b1 hb1
    simp [ho2, ho3] at hb1
    simp [h1, h2, h5, h18, h19, hb1, hb5, ho2, ho3]
    refine appendA_updO (by omega) (by omega) (fun e => by rw [ho1.1 e]; rfl) (by simp) (by simp) (by simp [ho2, ho3, hb1]) fun b' hb' => ?_
    simp at hb'
    simp [h1, h2, h5, h18, h19, hb1, hb5, hb', ho2, ho3]
    refine turnA_to (((AHeap.empty.upd b2 (.cells [.int .i64 r.m, .int .i64 r.c, rowsA r.next])).upd b5 (.cells [.int .i64 r.m, .int .i64 r.c, rowsA r.next, .int .i64 S, ownV (some b') (i + 1) 1, .nilfn])).updO (some b') (readyL r (i + 1))) ?_ ⟨⟨i + 1, some b'⟩, by simp only; omega, by simp only; omega, by simp [hb'], by simp [h1, h2, h5, h18, h19, hwi]⟩
    rw [hs]
    simp
    exact Drop.both (Drop.new (Drop.refl _) (by simp [hb1]))
  · obtain rfl : i = S := by omega
    have hsp : 0 < r.size := pw_pos (by omega) _
    cases o with
    | none => have := ho1.1 rfl; omega
    | some bo =>
      have nb : ¬ bo = b2 ∧ ¬ b2 = bo ∧ ¬ bo = b5 ∧ ¬ b5 = bo := ⟨fun q => ho2 (by rw [q]), fun q => ho2 (by rw [q]), fun q => ho3 (by rw [q]), fun q => ho3 (by rw [q])⟩
      have hfz : ∀ a ∈ readyL r i, a.frozen = true := by
        intro a ha
        obtain ⟨k, _, rfl⟩ := List.mem_map.1 ha
        unfold listA
        split <;> simp [AV.frozen]
      have hlen := readyL_len r i
      have fin : ∀ (j : Bool), finA (fun a h => ∃ b, a = .ptr b 0 ∧ h = AHeap.empty.upd b (.cells (jCells r j b))) (.ptr b5 0) (((AHeap.empty.upd b2 (.cells [.int .i64 r.m, .int .i64 r.c, rowsA r.next])).upd b5 (.cells [.int .i64 r.m, .int .i64 r.c, rowsA r.next, .int .i64 i, .osl bo 0 i 1, jMoves j b5])).upd bo (.cells (readyL r i))) := by
        intro j
        refine ⟨2, AHeap.empty.upd b5 (.cells (jCells r j b5)), .ptr b5 0, ?_, .inl rfl, b5, rfl, rfl⟩
        refine SubH.one 2 (jCells r j b5) (cs := [.int .i64 r.m, .int .i64 r.c, rowsA r.next, .int .i64 i, .osl bo 0 i 1, jMoves j b5]) (by simp [AHeap.upd, nb]) ?_
        obtain ⟨H1, hH1⟩ : ∃ H1, H1 = ((AHeap.empty.upd b2 (.cells [.int .i64 r.m, .int .i64 r.c, rowsA r.next])).upd b5 (.cells [.int .i64 r.m, .int .i64 r.c, rowsA r.next, .int .i64 i, .osl bo 0 i 1, jMoves j b5])).upd bo (.cells (readyL r i)) := ⟨_, rfl⟩
        obtain ⟨H2, hH2⟩ : ∃ H2, H2 = AHeap.empty.upd b5 (.cells (jCells r j b5)) := ⟨_, rfl⟩
        rw [← hH1, ← hH2]
        have f1 : cellsAt H1 bo 0 = some (readyL r i) := by rw [hH1]; simp
        have f2 : Fresh H2 bo := by rw [hH2]; simp [Fresh, AHeap.upd, nb, AHeap.empty]
        have f3 : H2 b5 ≠ none := by rw [hH2]; simp [AHeap.upd]
        have e1 : frzF 2 H1 H2 (.osl bo 0 i 1) = .sl i (readyL r i) := by
          rw [frz_osl f2, f1]
          simp only
          rw [if_pos (by omega), List.drop_zero, Nat.mul_one, List.take_of_length_le (by omega), map_frozen hfz]
        have e2 : frzF 2 H1 H2 (jMoves j b5) = jMoves j b5 := by
          unfold jMoves
          rw [frz_fn]
          simp [f3]
        simp [e1, e2, jCells]
        exact ⟨by rw [← hS], hS, by rw [← hS]⟩
      simp [h1, h2, h5, h18, h19, hb5, nb]
      cases joint with
      | false =>
        simp [h1, h2, h5, h18, h19, hb5, nb]
        exact fin false
      | true =>
        simp [h1, h2, h5, h18, h19, hb5, nb]
        exact fin true
end Go.Proofs

end

section
/-
  Ring: the judge's good and its moves.
-/
namespace Go.Proofs
open Go Go.AH
set_option maxRecDepth 10000
set_option maxHeartbeats 4000000

section
variable {α γ : Type} {step : γ → α → γ} {go : γ → Bool}
theorem runIt_on : ∀ (A B : List α) (g : γ), go (runIt step go g A) = true → runIt step go g (A ++ B) = runIt step go (runIt step go g A) B
  | [], B, g, _ => rfl
  | a :: A, B, g, h => by
    simp only [List.cons_append, runIt] at h ⊢
    by_cases h1 : go (step g a) = true
    · rw [if_pos h1] at h; simp only [if_pos h1]; exact runIt_on A B _ h
    · rw [if_neg h1] at h; exact absurd h h1
theorem runIt_off : ∀ (A B : List α) (g : γ), go g = true → go (runIt step go g A) = false → runIt step go g (A ++ B) = runIt step go g A
  | [], B, g, hg, h => by simp [runIt, hg] at h
  | a :: A, B, g, hg, h => by
    simp only [List.cons_append, runIt] at h ⊢
    by_cases h1 : go (step g a) = true
    · rw [if_pos h1] at h; simp only [if_pos h1]; exact runIt_off A B _ h1 h
    · rw [if_neg h1, if_neg h1]
theorem runIt_go : ∀ (A : List α) (g : γ), go (runIt step go g A) = true → runIt step go g A = A.foldl step g
  | [], g, _ => rfl
  | a :: A, g, h => by
    simp only [runIt] at h ⊢
    by_cases h1 : go (step g a) = true
    · rw [if_pos h1] at h ⊢; exact runIt_go A _ h
    · rw [if_neg h1] at h; exact absurd h h1
/-- One item more. -/
theorem runIt_snoc {A : List α} {a : α} {g : γ} (h : go (runIt step go g A) = true) : runIt step go g (A ++ [a]) = step (runIt step go g A) a := by
  rw [runIt_on A [a] g h]
  simp only [runIt]
  split <;> rfl
end

/-- A block behind a slot's pointer is given up. -/
theorem turnA_ptr {K : AF → AHeap → Prop} {t : AF} {h : AHeap} (j b : Nat) (cs : List AV) (hj : t j = .ptr b 0) (hb : Fresh h b) (q : K (t.put j (.fptr cs)) h) : turnA K t (h.upd b (.cells cs)) := by
  refine turnA_frz 1 h (t.put j (.fptr cs)) (Drop.new (Drop.refl _) hb) (fun i => ?_) q
  by_cases e : i = j
  · subst e
    right
    rw [hj, frz_ptr hb, cellsAt_upd, if_pos rfl]
    simp only [List.drop_zero, AF.put, if_true]
    congr 1
    exact (List.map_id cs).symm.trans (List.map_congr_left fun x _ => rfl)
  · left
    simp [AF.put, e]
theorem turnA_slotN {K : AF → AHeap → Prop} {t : AF} {h : AHeap} (j b : Nat) (l : List Nat) (hj : t j = .osl b 0 l.length 1) (hb : Fresh h b) (q : K (t.put j (natsA l)) h) : turnA K t (h.upd b (.cells (l.map fun x : Nat => AV.int .i64 (x : Int)))) := by
  have e : (l.map fun x : Nat => AV.int .i64 (x : Int)) = (l.map fun x : Nat => (x : Int)).map (AV.int .i64) := by simp
  rw [e]
  refine turnA_slot j b (l.map fun x : Nat => (x : Int)) (by simpa using hj) hb ?_
  rw [← nats_ints]; exact q
theorem lenA_listA {h : AHeap} (l : List Nat) : lenA Try.prog h 25 (listA l) = some (.int .i64 (l.length : Int)) := by
  unfold listA
  split
  · next e => subst e; simp
  · simp [natsA]
theorem readyL_get {r : Rul} {n k : Nat} (h : k < (readyL r n).length) : (readyL r n)[k] = listA (readyF r (ofF r.c r.m k)) := by simp [readyL]
def goodF (r : Rul) (n : Nat) : Bool := decide ((readyF r (ofF r.c r.m n)).length = 1)

theorem w_good (r : Rul) (hr : r.ok) (joint : Bool) (b : Nat) (h : AHeap) (hj : JAt r joint b h) (n : Nat) (hn : n < r.size) : ACalls Try.prog 67 [.ptr b 0, .int .i64 n] h fun a h' => a = .bool (goodF r n) ∧ h' = h := by
  refine acalls_of Try.func67 rfl Try.call67 (by kernel_rfl) (by show _ ≤ (14 : Nat); simp) ?_
  have hj' := hj
  unfold JAt jCells at hj'
  have hl : n < (readyL r r.size).length := by simpa using hn
  have hg := readyL_get hl
  simp [hj', hn, hg, -lenA, lenA_listA]
  refine finA_self ⟨?_, rfl⟩
  unfold goodF
  congr 2
  exact propext ⟨fun e => by omega, fun e => by omega⟩

/-- The value that the moves of a configuration are told by. -/
def mvFn (joint : Bool) (b n : Nat) : AV := .fn (.func (if joint = true then 83 else 82)) [] [.fptr [.ptr b 0], .fptr [.int .i64 n]]
theorem w_moves (joint : Bool) (b : Nat) (h : AHeap) (hb : h b ≠ none) (n : Nat) : ACallV Try.prog (jMoves joint b) [.int .i64 n] h fun a h' => a = mvFn joint b n ∧ h' = h := by
  unfold jMoves
  have fz : ∀ (c2 c3 : Nat) (f : Fn), Fresh h c2 → Fresh h c3 → ¬ c3 = c2 → frzF 2 ((h.upd c2 (.cells [.ptr b 0])).upd c3 (.cells [.int .i64 n])) h (.fn f [] [.ptr c2 0, .ptr c3 0]) = .fn f [] [.fptr [.ptr b 0], .fptr [.int .i64 n]] := by
    intro c2 c3 f f2 f3 hne
    have hne' : ¬ c2 = c3 := fun e => hne e.symm
    rw [frz_fn]
    simp only [List.map_nil, List.map_cons]
    rw [frz_ptr f2, frz_ptr f3]
    simp [hne', hb]
  have dr : ∀ (c2 c3 : Nat), Fresh h c2 → Fresh h c3 → Drop ((h.upd c2 (.cells [.ptr b 0])).upd c3 (.cells [.int .i64 n])) h := fun c2 c3 f2 f3 => Drop.new (Drop.new (Drop.refl _) f2) f3
  cases joint with
  | false =>
    refine acalls_of Try.func73 rfl Try.call73 (by kernel_rfl) (by show _ ≤ (6 : Nat); simp) ?_
    simp
    intro c2 f2
    simp
    intro c3 f3
    obtain ⟨n1, n2, f3'⟩ : ¬ c3 = c2 ∧ ¬ c2 = c3 ∧ Fresh h c3 := by simpa [f2] using f3
    simp
    refine finA_to 2 h (dr c2 c3 f2 f3') ⟨?_, rfl⟩
    rw [fz c2 c3 _ f2 f3' n1]; rfl
  | true =>
    refine acalls_of Try.func74 rfl Try.call74 (by kernel_rfl) (by show _ ≤ (6 : Nat); simp) ?_
    simp
    intro c2 f2
    simp
    intro c3 f3
    obtain ⟨n1, n2, f3'⟩ : ¬ c3 = c2 ∧ ¬ c2 = c3 ∧ Fresh h c3 := by simpa [f2] using f3
    simp
    refine finA_to 2 h (dr c2 c3 f2 f3') ⟨?_, rfl⟩
    rw [fz c2 c3 _ f2 f3' n1]; rfl

theorem readyF_ok0 {r : Rul} {l : List Nat} : ∀ i ∈ readyF r l, i < r.m ∧ 0 ≤ takesF r l i := by
  intro i hi
  have := List.mem_filter.1 hi
  exact ⟨List.mem_range.1 this.1, by simpa using this.2⟩
theorem readyF_len0 (r : Rul) (l : List Nat) : (readyF r l).length ≤ r.m := by
  unfold readyF
  exact Nat.le_trans (List.length_filter_le _ _) (by simp)
/-- Where steps lead, and joint steps. -/
def succF (r : Rul) (n : Nat) : List Nat := (readyF r (ofF r.c r.m n)).map fun i => numF r.c (stepF r (ofF r.c r.m n) [i])
end Go.Proofs

end

section
/-
  Ring: where steps lead: the iterator.
-/
namespace Go.Proofs
open Go Go.AH
set_option maxRecDepth 10000
set_option maxHeartbeats 4000000

structure LG (γ : Type) where
  k : Nat
  g : γ
  h : AHeap
theorem succF_take {r : Rul} {n k : Nat} (hk : k < (readyF r (ofF r.c r.m n)).length) : (succF r n).take (k + 1) = (succF r n).take k ++ [numF r.c (stepF r (ofF r.c r.m n) [(readyF r (ofF r.c r.m n))[k]])] := by
  rw [List.take_succ_eq_append_getElem (by simpa [succF] using hk)]
  simp [succF]
theorem it_single (r : Rul) (hr : r.ok) (joint : Bool) (b n : Nat) (hn : n < r.size) : IterH Try.prog (JAt r joint b) (mvFn false b n) (fun t : Nat => [.int .i64 t]) (succF r n) true := by
  intro γ I step go y g0 h0 hS hgo hI _ hy
  refine acalls_of Try.func82 rfl Try.call82 (by kernel_rfl) (by show _ ≤ (49 : Nat); simp) ?_
  have q1 := hr.m2; have q2 := hr.m6; have q3 := hr.c2; have q4 := hr.c6; have q5 := hr.sz
  have cf := of_cfg hr n
  obtain ⟨l, hl⟩ : ∃ l, l = ofF r.c r.m n := ⟨_, rfl⟩
  have c1 := w_config r hr n hn
  rw [← hl] at c1 cf
  obtain ⟨R, hR⟩ : ∃ R, R = readyF r l := ⟨_, rfl⟩
  have hRl : R.length ≤ r.m := by rw [hR]; exact readyF_len0 r l
  have hRok : ∀ i ∈ R, i < r.m ∧ 0 ≤ takesF r l i := by rw [hR]; exact fun i hi => readyF_ok0 i hi
  simp only [Rul.av] at c1
  have e0 : ∀ h, JAt r joint b h → ∀ off, cellsAt h b off = some (([.int .i64 r.m, .int .i64 r.c, rowsA r.next, .int .i64 (r.size : Nat), .sl r.size (readyL r r.size), jMoves joint b] : List AV).drop off) := fun h q => q
  have hn' : n < (readyL r r.size).length := by simpa using hn
  have hg := readyL_get hn'
  rw [← hl, ← hR] at hg
  have l6 : (cfgL l).length = 6 := cfgL_len (by have := cf.len; omega)
  have hz : splice [.int .u8 0, .int .u8 0, .int .u8 0, .int .u8 0, .int .u8 0, .int .u8 0] 0 (cfgL l) = cfgL l := splice_all (by rw [l6]; rfl)
  have ltk : (cfgL l).take 6 = cfgL l := List.take_of_length_le (by omega)
  have j0 := e0 h0 (hS _ _ hI)
  simp
  refine awp_draw_text (by kernel_rfl) [11] [(.fn (.func 59) [] [], [.agg [.int .i64 r.m, .int .i64 r.c, rowsA r.next], .int .i64 n], cfgA l)] (by kernel_rfl) (by kernel_rfl) (by simp; exact PureV.of c1) ?_
  simp [j0, gamGet_here, cfgA]
  intro b4 hb4
  have n4 := ne_fresh (j0 0) hb4
  simp [l6, hz]
  refine awp_draw_text (by kernel_rfl) [] [] (by kernel_rfl) (by kernel_rfl) (by simp) ?_
  simp [j0, n4, hn, hg, -lenA, lenA_listA]
  refine awp_loop_g (γ := LG γ) (fun q t h => (q.k ≤ R.length) ∧ (go q.g = true) ∧ (I q.g q.h) ∧ (runIt step go g0 ((succF r n).take q.k) = q.g) ∧ t 0 = y ∧ t 1 = .fptr [.ptr b 0] ∧ t 2 = .fptr [.int .i64 n] ∧ t 4 = .fptr (cfgL l) ∧ t 19 = .int .i64 R.length ∧ t 20 = .int .i64 q.k ∧ h = q.h) (fun q => R.length - q.k) (⟨0, g0, h0⟩) (turnA_ptr 4 b4 (cfgL l) (by simp) hb4 (by simp [hgo, hI, runIt])) ?_
  rintro q t hx ⟨hk, hgq, hIq, hrun, h0, h1, h2, h4, h19, h20, ex⟩
  rw [ex]
  clear ex
  obtain ⟨k, g, h⟩ := q
  simp only at h0 h1 h2 h4 h19 h20 hk hgq hIq hrun
  have j1 := e0 h (hS _ _ hIq)
  have hsl : (succF r n).length = R.length := by rw [hR, hl]; simp [succF]
  by_cases hlt : k < R.length
  · have hwk : IntKind.i64.wrap ((k : Int) + 1) = (k : Int) + 1 := wrap_i64 (by omega) (by omega)
    have hRn : ¬ R = [] := fun e => by rw [e] at hlt; simp at hlt
    have hla : listA R = .sl R.length (R.map fun x : Nat => AV.int .i64 (x : Int)) := by unfold listA; rw [if_neg hRn]; rfl
    obtain ⟨i, hi⟩ : ∃ i, i = R[k] := ⟨_, rfl⟩
    have hi' : R[k]'hlt = i := hi.symm
    have hms : ∀ i' ∈ [i], i' < r.m ∧ 0 ≤ takesF r l i' := by intro i' h'; simp at h'; subst h'; exact hRok _ (by rw [hi]; exact List.getElem_mem hlt)
    have c2 := w_step r hr l cf [i] hms (by simp)
    have cf2 := step_cfg hr cf hms
    have c3 := w_number r hr (stepF r l [i]) cf2
    simp only [Rul.av, cfgA] at c2 c3
    obtain ⟨x, hx⟩ : ∃ x, x = numF r.c (stepF r l [i]) := ⟨_, rfl⟩
    rw [← hx] at c3
    have hgx : (succF r n)[k]? = some x := by
      have : k < (succF r n).length := by omega
      rw [List.getElem?_eq_getElem this, hx]
      congr 1
      subst hR hl
      simp only [succF, List.getElem_map, hi']
    have hts : (succF r n).take (k + 1) = (succF r n).take k ++ [x] := by
      have : k < (succF r n).length := by omega
      rw [List.take_succ_eq_append_getElem this]
      rw [List.getElem?_eq_getElem this] at hgx
      simp only [Option.some.injEq] at hgx
      rw [hgx]
    have hgf : g = ((succF r n).take k).foldl step g0 := by rw [← hrun]; exact runIt_go _ _ (by rw [hrun]; exact hgq)
    have cy := hy k g x h hgx hgf hgq hIq
    have hrs : runIt step go g0 ((succF r n).take (k + 1)) = step g x := by rw [hts, runIt_snoc (by rw [hrun]; exact hgq), hrun]
    have hdt : List.take 1 (List.drop k (R.map fun x : Nat => AV.int .i64 (x : Int))) = [AV.int .i64 (i : Int)] := by
      rw [← List.map_drop, ← List.map_take, List.drop_eq_getElem_cons hlt, hi']; simp
    have c2' : AH.Pure Try.prog 52 [.agg [.int .i64 r.m, .int .i64 r.c, rowsA r.next], .agg (cfgL l), .sl 1 [.int .i64 (i : Int)]] (.agg (cfgL (stepF r l [i]))) := c2
    simp [h0, h1, h2, h4, h19, h20, hlt]
    refine awp_draw_text (by kernel_rfl) [44] [(.fn (.func 52) [] [], [.agg [.int .i64 r.m, .int .i64 r.c, rowsA r.next], .agg (cfgL l), .sl 1 [.int .i64 (i : Int)]], .agg (cfgL (stepF r l [i])))] (by kernel_rfl) (by kernel_rfl) (by simp; exact PureV.of c2') ?_
    have hk1 : k + 1 ≤ R.length := by omega
    have hkI1 : (k : Int) + 1 ≤ (R.length : Int) := by omega
    have hsub : ((k : Int) + 1 - (k : Int)).toNat = 1 := by omega
    have hk0 : (k : Int) ≤ (k : Int) + 1 := by omega
    have hkn : ((k : Int) + 1).toNat = k + 1 := by omega
    simp [h0, h1, h2, h4, h19, h20, j1, l6, ltk, hn, hg, hla, hwk, hk1, hkI1, hsub, hk0, hkn, hdt, gamGet_here]
    refine c3.use ?_
    simp [h0, h1, h2, h4, h19, h20]
    refine ACallV.mono cy ?_
    rintro r' h' ⟨rfl, hI'⟩
    cases hgo2 : go (step g x) with
    | false =>
      have hall : runIt step go g0 (succF r n) = step g x := by
        have := runIt_off (step := step) (go := go) ((succF r n).take (k + 1)) ((succF r n).drop (k + 1)) g0 hgo (by rw [hrs]; exact hgo2)
        rw [List.take_append_drop, hrs] at this
        exact this
      simp [hgo2]
      refine finA_self ?_
      rw [hall]; exact hI'
    | true =>
      simp [h0, h1, h2, h4, h19, h20, hgo2]
      exact turnA_self ⟨⟨k + 1, step g x, h'⟩, by simp only; omega, by simp only; omega, hgo2, hI', hrs, by simp [h0, h1, h2, h4, h19, h20, hwk]⟩
  · have hkE : k = R.length := by omega
    simp [h0, h1, h2, h4, h19, h20, hlt]
    refine finA_self ?_
    rw [hkE, ← hsl, List.take_length] at hrun
    rw [hrun]; exact hIq
end Go.Proofs

end

section
/-
  Ring: where joint steps lead: the iterator.
-/
namespace Go.Proofs
open Go Go.AH
set_option maxRecDepth 10000
set_option maxHeartbeats 4000000

/-- The places in a set. -/
def bitB (set k : Nat) : Bool := set / 2 ^ k % 2 == 1
def pickI (len set : Nat) : List Nat := (List.range len).filter (bitB set)
def pickS (R : List Nat) (set : Nat) : List Nat := (pickI R.length set).map fun k => R.getD k 0
theorem bit_val : ∀ s : Nat, s < 64 → ∀ k : Nat, k < 6 → IntKind.i64.wrap (((Int.fdiv ((s : Int) + 1) (2 ^ min k IntKind.i64.bits) % 2 ^ IntKind.i64.bits).toNat &&& 1 % 2 ^ IntKind.i64.bits : Nat) : Int) = if bitB (s + 1) k = true then 1 else 0 := by decide +kernel
theorem pickI_ne : ∀ len, len < 7 → ∀ set, set < 64 → 0 < set → set < 2 ^ len → pickI len set ≠ [] := by decide +kernel
theorem pow_le64 : ∀ len : Nat, len < 7 → 2 ^ len ≤ 64 ∧ IntKind.i64.wrap ((2 : Int) ^ min len IntKind.i64.bits) = ((2 ^ len : Nat) : Int) := by decide +kernel
def pickK (R : List Nat) (set j : Nat) : List Nat := ((List.range j).filter (bitB set)).map fun k => R.getD k 0
theorem pickK_succ (R : List Nat) (set j : Nat) : pickK R set (j + 1) = pickK R set j ++ (if bitB set j = true then [R.getD j 0] else []) := by
  unfold pickK
  rw [List.range_succ, List.filter_append, List.map_append]
  congr 1
  by_cases h : bitB set j = true <;> simp [h]
theorem pickK_len (R : List Nat) (set j : Nat) : (pickK R set j).length ≤ j := by
  unfold pickK
  rw [List.length_map]
  exact Nat.le_trans (List.length_filter_le _ _) (by simp)
theorem pickS_mem {R : List Nat} {set : Nat} : ∀ i ∈ pickS R set, i ∈ R := by
  intro i hi
  obtain ⟨k, hk, rfl⟩ := List.mem_map.1 hi
  have hk' : k < R.length := List.mem_range.1 (List.mem_filter.1 hk).1
  rw [show R.getD k 0 = R[k] from by simp [hk']]
  exact List.getElem_mem hk'
/-- Where joint steps lead. -/
def jointF (r : Rul) (n : Nat) : List Nat := (List.range (2 ^ (readyF r (ofF r.c r.m n)).length - 1)).map fun s => numF r.c (stepF r (ofF r.c r.m n) (pickS (readyF r (ofF r.c r.m n)) (s + 1)))

structure LJ (γ : Type) where
  s : Nat
  g : γ
  h : AHeap
theorem it_joint (r : Rul) (hr : r.ok) (joint : Bool) (b n : Nat) (hn : n < r.size) : IterH Try.prog (JAt r joint b) (mvFn true b n) (fun t : Nat => [.int .i64 t]) (jointF r n) true := by
  intro γ I step go y g0 hp0 hS hgo hI _ hy
  refine acalls_of Try.func83 rfl Try.call83 (by kernel_rfl) (by show _ ≤ (68 : Nat); simp) ?_
  have q1 := hr.m2; have q2 := hr.m6; have q3 := hr.c2; have q4 := hr.c6; have q5 := hr.sz
  have cf := of_cfg hr n
  obtain ⟨l, hl⟩ : ∃ l, l = ofF r.c r.m n := ⟨_, rfl⟩
  have c1 := w_config r hr n hn
  rw [← hl] at c1 cf
  obtain ⟨R, hR⟩ : ∃ R, R = readyF r l := ⟨_, rfl⟩
  have hRl : R.length ≤ r.m := by rw [hR]; exact readyF_len0 r l
  have hRok : ∀ i ∈ R, i < r.m ∧ 0 ≤ takesF r l i := by rw [hR]; exact fun i hi => readyF_ok0 i hi
  simp only [Rul.av] at c1
  have e0 : ∀ h, JAt r joint b h → ∀ off, cellsAt h b off = some (([.int .i64 r.m, .int .i64 r.c, rowsA r.next, .int .i64 (r.size : Nat), .sl r.size (readyL r r.size), jMoves joint b] : List AV).drop off) := fun h q => q
  have hn' : n < (readyL r r.size).length := by simpa using hn
  have hg := readyL_get hn'
  rw [← hl, ← hR] at hg
  have l6 : (cfgL l).length = 6 := cfgL_len (by have := cf.len; omega)
  have hz : splice [.int .u8 0, .int .u8 0, .int .u8 0, .int .u8 0, .int .u8 0, .int .u8 0] 0 (cfgL l) = cfgL l := splice_all (by rw [l6]; rfl)
  have ltk : (cfgL l).take 6 = cfgL l := List.take_of_length_le (by omega)
  have j0 := e0 hp0 (hS _ _ hI)
  obtain ⟨p64, pw2⟩ := pow_le64 R.length (by omega)
  obtain ⟨T, hT⟩ : ∃ T, T = 2 ^ R.length := ⟨_, rfl⟩
  rw [← hT] at p64 pw2
  have hTp : 0 < T := by rw [hT]; exact Nat.pow_pos (by omega)
  simp
  refine awp_draw_text (by kernel_rfl) [14] [(.fn (.func 59) [] [], [.agg [.int .i64 r.m, .int .i64 r.c, rowsA r.next], .int .i64 n], cfgA l)] (by kernel_rfl) (by kernel_rfl) (by simp; exact PureV.of c1) ?_
  simp [j0, gamGet_here, cfgA]
  intro b4 hb4
  have n4 := ne_fresh (j0 0) hb4
  simp [l6, hz]
  refine awp_loop_g (γ := LJ γ) (fun q t h => (q.s + 1 ≤ T) ∧ (go q.g = true) ∧ (I q.g q.h) ∧ (runIt step go g0 ((jointF r n).take q.s) = q.g) ∧ t 0 = y ∧ t 1 = .fptr [.ptr b 0] ∧ t 2 = .fptr [.int .i64 n] ∧ t 4 = .fptr (cfgL l) ∧ t 5 = .int .i64 ((q.s + 1 : Nat) : Int) ∧ h = q.h) (fun q => T - q.s) (⟨0, g0, hp0⟩) (turnA_ptr 4 b4 (cfgL l) (by simp) hb4 (by simp [hgo, hI, runIt]; omega)) ?_
  rintro q t hx ⟨hs, hgq, hIq, hrun, h0, h1, h2, h4, h5, ex⟩
  rw [ex]
  clear ex
  obtain ⟨s, g, hh⟩ := q
  simp only at h0 h1 h2 h4 h5 hs hgq hIq hrun
  have j1 := e0 hh (hS _ _ hIq)
  have hRi : ¬ ((R.length : Int) < 0) := by omega
  simp [h0, h1, h2, h4, h5]
  refine awp_draw_text (by kernel_rfl) [] [] (by kernel_rfl) (by kernel_rfl) (by simp) ?_
  have hu64 : IntKind.u64.wrap (R.length : Int) = R.length := wrap_u64 (by omega) (by omega)
  have hsl : (jointF r n).length = T - 1 := by rw [hT, hR, hl]; simp [jointF]
  by_cases hlt : s + 1 < T
  · have hltI : ((s : Int) + 1) < (T : Int) := by omega
    simp [h0, h1, h2, h4, h5, j1, hn, hg, -lenA, lenA_listA, hu64, hRi, pw2, hltI]
    refine awp_draw_text (by kernel_rfl) [] [] (by kernel_rfl) (by kernel_rfl) (by simp) ?_
    simp [h0, h1, h2, h4, h5, j1, hn, hg, -lenA, lenA_listA]
    have hRn : ¬ R = [] := fun e => by rw [e] at hT; simp at hT; omega
    have hla : listA R = .sl R.length (R.map fun x : Nat => AV.int .i64 (x : Int)) := by unfold listA; rw [if_neg hRn]; rfl
    have hpn := pickI_ne R.length (by omega) (s + 1) (by omega) (by omega) (by rw [← hT]; exact hlt)
    have hps : pickK R (s + 1) R.length = pickS R (s + 1) := rfl
    have hpsn : ¬ pickS R (s + 1) = [] := by unfold pickS; simpa using hpn
    have hms : ∀ i ∈ pickS R (s + 1), i < r.m ∧ 0 ≤ takesF r l i := fun i hi => hRok i (pickS_mem i hi)
    have c2 := w_step r hr l cf (pickS R (s + 1)) hms (by have := pickK_len R (s + 1) R.length; rw [hps] at this; omega)
    have cf2 := step_cfg hr cf hms
    have c3 := w_number r hr (stepF r l (pickS R (s + 1))) cf2
    simp only [Rul.av, cfgA] at c2 c3
    refine awp_loop_t (γ := At) (fun u t h => (u.i ≤ R.length) ∧ ((u.o = none ↔ pickK R (s + 1) u.i = []) ∧ FreshO hh u.o) ∧ t 0 = y ∧ t 1 = .fptr [.ptr b 0] ∧ t 2 = .fptr [.int .i64 n] ∧ t 4 = .fptr (cfgL l) ∧ t 5 = .int .i64 ((s + 1 : Nat) : Int) ∧ t 6 = ownV u.o (pickK R (s + 1) u.i).length 1 ∧ t 35 = .sl R.length (R.map fun x : Nat => AV.int .i64 (x : Int)) ∧ t 36 = .int .i64 R.length ∧ t 37 = .int .i64 u.i ∧ h = hh.updO u.o ((pickK R (s + 1) u.i).map fun x : Nat => AV.int .i64 (x : Int))) (fun u => R.length - u.i) (⟨0, none⟩) (turnA_self (by simp [h0, h1, h2, h4, h5, hla, pickK])) ?_
    rintro u t hx ⟨hu, ho, h0, h1, h2, h4, h5, h6, h35, h36, h37, ex⟩
    rw [ex]
    clear ex
    obtain ⟨k, o⟩ := u
    simp only at h0 h1 h2 h4 h5 h6 h35 h36 h37 hu ho
    obtain ⟨ho1, ho2⟩ := ho
    by_cases huk : k < R.length
    · have hwk : IntKind.i64.wrap ((k : Int) + 1) = (k : Int) + 1 := wrap_i64 (by omega) (by omega)
      have hbv := bit_val s (by omega) k (by omega)
      have hk64 : IntKind.u64.wrap (k : Int) = k := wrap_u64 (by omega) (by omega)
      have hkn : ¬ ((k : Int) < 0) := by omega
      have hsucc := pickK_succ R (s + 1) k
      have hkl := pickK_len R (s + 1) k
      have hgd : R.getD k 0 = R[k] := by simp [huk]
      rw [hgd] at hsucc
      obtain ⟨i, hi⟩ : ∃ i, i = R[k] := ⟨_, rfl⟩
      have hi' : R[k]'huk = i := hi.symm
      rw [hi'] at hsucc
      by_cases hbit : bitB (s + 1) k = true
      · rw [if_pos hbit] at hbv hsucc
        simp [h0, h1, h2, h4, h5, h6, h35, h36, h37, huk, hi', hk64, hkn, hbv]
        intro b1 hb1
        simp at hb1
        obtain ⟨z1, z2⟩ : ¬ o = some b1 ∧ Fresh hh b1 := hb1
        simp [h0, h1, h2, h4, h5, h6, h35, h36, h37, z1, z2]
        refine appendA_updO (by omega) (by omega) (by simpa using ho1.1) (by simp) (by simp) (by simp [z1, z2, ho2]) fun b' hb' => ?_
        obtain ⟨z3, z3', z4⟩ : ¬ b' = b1 ∧ ¬ b1 = b' ∧ Fresh hh b' := by simpa [z1, z2] using hb'
        simp [h0, h1, h2, h4, h5, h6, h35, h36, h37, z1, z2, z3, z3', z4]
        refine turnA_to (hh.updO (some b') ((pickK R (s + 1) (k + 1)).map fun x : Nat => AV.int .i64 (x : Int))) ?_ ⟨⟨k + 1, some b'⟩, by simp only; omega, by simp only; omega, ⟨by simp [hsucc], z4⟩, by simp [h0, h1, h2, h4, h5, h6, h35, h36, h37, hwk, hsucc]⟩
        rw [hsucc]
        simp
        exact Drop.both (Drop.new (Drop.refl _) (by simp [z2]))
      · rw [if_neg hbit] at hbv hsucc
        rw [List.append_nil] at hsucc
        simp [h0, h1, h2, h4, h5, h6, h35, h36, h37, huk, hi', hk64, hkn, hbv]
        exact turnA_self ⟨⟨k + 1, o⟩, by simp only; omega, by simp only; omega, ⟨by simp only; rw [hsucc]; exact ho1, ho2⟩, by simp [h0, h1, h2, h4, h5, h6, h35, h36, h37, hwk, hsucc]⟩
    · have hkE : k = R.length := by omega
      simp [h0, h1, h2, h4, h5, h6, h35, h36, h37, huk]
      rw [hkE, hps] at ho1 ⊢
      cases o with
      | none => exact absurd (ho1.1 rfl) hpsn
      | some bb =>
        rw [updO_some]
        refine turnA_slotN 6 bb (pickS R (s + 1)) (by simp [h0, h1, h2, h4, h5, h6, h35, h36, h37, hkE, hps]) ho2 ?_
        obtain ⟨x, hx⟩ : ∃ x, x = numF r.c (stepF r l (pickS R (s + 1))) := ⟨_, rfl⟩
        rw [← hx] at c3
        have hsj : s < (jointF r n).length := by omega
        have hgx : (jointF r n)[s]? = some x := by
          rw [List.getElem?_eq_getElem hsj, hx]
          congr 1
          subst hR hl
          simp only [jointF, List.getElem_map, List.getElem_range]
        have hts : (jointF r n).take (s + 1) = (jointF r n).take s ++ [x] := by
          rw [List.take_succ_eq_append_getElem hsj]
          rw [List.getElem?_eq_getElem hsj] at hgx
          simp only [Option.some.injEq] at hgx
          rw [hgx]
        have hgf : g = ((jointF r n).take s).foldl step g0 := by rw [← hrun]; exact runIt_go _ _ (by rw [hrun]; exact hgq)
        have cy := hy s g x hh hgx hgf hgq hIq
        have hrs : runIt step go g0 ((jointF r n).take (s + 1)) = step g x := by rw [hts, runIt_snoc (by rw [hrun]; exact hgq), hrun]
        have hws : IntKind.i64.wrap ((s : Int) + 1 + 1) = (s : Int) + 1 + 1 := wrap_i64 (by omega) (by omega)
        simp [h0, h1, h2, h4, h5, h6, h35, h36, h37]
        refine awp_draw_text (by kernel_rfl) [64] [(.fn (.func 52) [] [], [.agg [.int .i64 r.m, .int .i64 r.c, rowsA r.next], .agg (cfgL l), natsA (pickS R (s + 1))], .agg (cfgL (stepF r l (pickS R (s + 1)))))] (by kernel_rfl) (by kernel_rfl) (by simp; exact PureV.of c2) ?_
        simp [h0, h1, h2, h4, h5, h6, h35, h36, h37, j1, l6, ltk, gamGet_here]
        refine c3.use ?_
        simp [h0, h1, h2, h4, h5, h6, h35, h36, h37]
        refine ACallV.mono cy ?_
        rintro r' h' ⟨rfl, hI'⟩
        cases hgo2 : go (step g x) with
        | false =>
          have hall : runIt step go g0 (jointF r n) = step g x := by
            have := runIt_off (step := step) (go := go) ((jointF r n).take (s + 1)) ((jointF r n).drop (s + 1)) g0 hgo (by rw [hrs]; exact hgo2)
            rw [List.take_append_drop, hrs] at this
            exact this
          simp [hgo2]
          refine finA_self ?_
          rw [hall]; exact hI'
        | true =>
          simp [h0, h1, h2, h4, h5, h6, h35, h36, h37, hgo2]
          exact turnA_self ⟨⟨s + 1, step g x, h'⟩, by simp only; omega, by simp only; omega, hgo2, hI', hrs, by simp [h0, h1, h2, h4, h5, h6, h35, h36, h37, hws]⟩
  · have hltI : ¬ ((s : Int) + 1) < (T : Int) := by omega
    simp [h0, h1, h2, h4, h5, j1, hn, hg, -lenA, lenA_listA, hu64, hRi, pw2, hltI]
    refine finA_self ?_
    have hsE : s = (jointF r n).length := by omega
    rw [hsE, List.take_length] at hrun
    rw [hrun]; exact hIq
end Go.Proofs

end

section
/-
  Ring: IsRank.
-/
namespace Go.Proofs
open Go Go.AH
set_option maxRecDepth 10000
set_option maxHeartbeats 4000000

def minK (l : List Int) : Nat → Int
  | 0 => l.getD 0 0
  | k + 1 => if l.getD (k + 1) 0 < minK l k then l.getD (k + 1) 0 else minK l k
theorem minK_neg (l : List Int) : ∀ k, minK l k < 0 ↔ ∃ j, j ≤ k ∧ l.getD j 0 < 0
  | 0 => ⟨fun h => ⟨0, Nat.le_refl _, h⟩, fun ⟨j, hj, h⟩ => by
    have : j = 0 := by omega
    subst this; exact h⟩
  | k + 1 => by
    have ih := minK_neg l k
    unfold minK
    constructor
    · intro h
      split at h
      · exact ⟨k + 1, Nat.le_refl _, h⟩
      · obtain ⟨j, h1, h2⟩ := ih.1 h
        exact ⟨j, by omega, h2⟩
    · rintro ⟨j, h1, h2⟩
      split
      · next q =>
        by_cases e : j = k + 1
        · subst e; exact h2
        · have := ih.2 ⟨j, by omega, h2⟩; omega
      · next q =>
        by_cases e : j = k + 1
        · subst e; omega
        · exact ih.2 ⟨j, by omega, h2⟩
theorem w_Min (l : List Int) (hl : l.length ≤ 1000000) (hne : ¬ l = []) : Pure Try.prog 66 [intsA l] (.int .i64 (minK l (l.length - 1))) := by
  refine pure_of (acalls_of Try.func66 rfl Try.call66 (by kernel_rfl) (by show _ ≤ (25 : Nat); simp) ?_)
  have hp : 0 < l.length := List.length_pos_iff.2 hne
  have h1 : ¬ (l.length : Int) < 1 := by omega
  have h0 : l.getD 0 0 = l[0] := by simp [hp]
  have g1 : ¬ l.length < 1 := by omega
  simp [intsA, h1, g1, hp, hne]
  refine awp_loop_g (γ := Nat) (fun i t h => (1 ≤ i ∧ i ≤ l.length) ∧ t 0 = .sl l.length (l.map (.int .i64)) ∧ t 3 = .int .i64 (minK l (i - 1)) ∧ t 4 = .int .i64 i) (fun i => l.length - i) (1) (turnA_self (by simp [minK, hp]; omega)) ?_
  rintro i t h ⟨hi, h0, h3, h4⟩
  obtain ⟨hi1, hi2⟩ := hi
  by_cases hlt : i < l.length
  · have hltI : (i : Int) < (l.length : Int) := by omega
    have hwi : IntKind.i64.wrap ((i : Int) + 1) = (i : Int) + 1 := wrap_i64 (by omega) (by omega)
    have hms : minK l i = if l.getD i 0 < minK l (i - 1) then l.getD i 0 else minK l (i - 1) := by
      obtain ⟨k, rfl⟩ : ∃ k, i = k + 1 := ⟨i - 1, by omega⟩
      rfl
    have hgd : l.getD i 0 = l[i] := by simp [hlt]
    rw [hgd] at hms
    simp [h0, h3, h4, hlt, hltI]
    exact turnA_self ⟨i + 1, by omega, by omega, by simp [h0, h3, h4, hwi, hms]⟩
  · have hie : i = l.length := by omega
    have hltI : ¬ (i : Int) < (l.length : Int) := by omega
    simp [h0, h3, h4, hlt, hltI, hie]
    exact finA_drop rfl

theorem newJudge_at (r : Rul) (hr : r.ok) (joint : Bool) (H : AHeap) : ACalls Try.prog 62 [r.av, .bool joint] H fun a h => ∃ b, a = .ptr b 0 ∧ h = H.upd b (.cells (jCells r joint b)) ∧ Fresh H b := by
  have c2 := ACalls.frame (w_newJudge r hr joint) (h2 := H) Disj.empty
  rw [AHeap.empty_un] at c2
  refine ACalls.mono c2 ?_
  rintro a h' ⟨h1, rfl, D, b, rfl, rfl⟩
  refine ⟨b, rfl, ?_, ?_⟩
  · apply funext
    intro x
    show (AHeap.empty.upd b _).un H x = _
    rw [AHeap.un_at]
    by_cases q : x = b
    · subst q; rw [AHeap.upd_same]; exact AHeap.upd_same.symm
    · rw [AHeap.upd_ne q]; exact (AHeap.upd_ne q).symm
  · rcases D b with q | q
    · rw [AHeap.upd_same] at q; cases q
    · exact q
theorem JAt_new (r : Rul) (joint : Bool) (b : Nat) (H : AHeap) : JAt r joint b (H.upd b (.cells (jCells r joint b))) := by intro off; simp

@[simp] theorem listI_fit {l : List Int} : (listI l).fit = true := by unfold listI; split <;> rfl
@[simp] theorem listI_one {l : List Int} : (listI l).one = true := by unfold listI; split <;> rfl
@[simp] theorem listI_cells {l : List Int} : (listI l).cells = [listI l] := by unfold listI; split <;> rfl

theorem JAt.ne {r : Rul} {joint : Bool} {b : Nat} {h : AHeap} (e : JAt r joint b h) : h b ≠ none := by
  intro q
  have := e 0
  unfold cellsAt at this
  rw [q] at this
  cases this
/-- The numbers fall at each step. -/
def fallF (r : Rul) (A : List Int) (n : Nat) : Bool := (succF r n).all fun t => decide (A.getD t 0 < A.getD n 0)
def fallOn (r : Rul) (A : List Int) (n : Nat) : Bool := (List.range n).all fun n => goodF r n || fallF r A n
theorem fallOn_succ (r : Rul) (A : List Int) (n : Nat) : fallOn r A (n + 1) = (fallOn r A n && (goodF r n || fallF r A n)) := by
  unfold fallOn
  rw [List.range_succ, List.all_append]; simp
theorem fallOn_cut {r : Rul} {A : List Int} {n m : Nat} (hn : n < m) (h1 : goodF r n = false) (h2 : fallF r A n = false) : fallOn r A m = false := by
  unfold fallOn
  rw [List.all_eq_false]
  exact ⟨n, List.mem_range.2 hn, by rw [h1, h2]; simp⟩
/-- Are the numbers a ranking? -/
def isRankF (r : Rul) (A : List Int) : Bool := decide (A.length = r.size) && !A.any (fun x => decide (x < 0)) && fallOn r A r.size
theorem succF_lt {r : Rul} (hr : r.ok) (n : Nat) : ∀ t ∈ succF r n, t < r.size := by
  intro t ht
  obtain ⟨i, hi, rfl⟩ := List.mem_map.1 ht
  exact cfg_num hr (step_cfg hr (of_cfg hr n) (by intro i' h; simp at h; subst h; exact readyF_ok0 _ hi))
theorem foldl_and {α : Type} (p : α → Bool) : ∀ (L : List α) (g : Bool), L.foldl (fun g t => g && p t) g = (g && L.all p)
  | [], g => by simp
  | a :: L, g => by rw [List.foldl_cons, foldl_and p L]; simp [Bool.and_assoc]
theorem runIt_and {α : Type} (p : α → Bool) : ∀ (L : List α) (g : Bool), g = true → runIt (fun g t => g && p t) (fun g => g) g L = L.all p
  | [], g, h => by simp [runIt, h]
  | a :: L, g, h => by
    subst h
    simp only [runIt, Bool.true_and, List.all_cons]
    by_cases q : p a = true
    · rw [if_pos q, runIt_and p L _ q, q]; simp
    · rw [if_neg q]; simp [q]

theorem w_IsRank (r : Rul) (hr : r.ok) (A : List Int) (hA : A.length ≤ 1000000) : Pure Try.prog 33 [r.av, listI A] (.bool (isRankF r A)) := by
  refine pure_of (acalls_of Try.func33 rfl Try.call33 (by kernel_rfl) (by show _ ≤ (55 : Nat); simp) ?_)
  have q1 := hr.m2; have q2 := hr.m6; have q3 := hr.c2; have q4 := hr.c6; have q5 := hr.sz
  have cc := w_Check r hr
  have cs := w_size r.m r.c q1 q2 q3 q4 q5
  have hsp : 0 < r.size := pw_pos (by omega) _
  have hav : r.av = .agg [.int .i64 r.m, .int .i64 r.c, rowsA r.next] := rfl
  have hSz : (pw r.c r.m : Nat) = r.size := rfl
  rw [hSz] at cs
  rw [hav] at cc ⊢
  simp
  intro b2 hb2
  simp
  intro b3 hb3
  simp at hb3
  simp [hb3]
  intro b4 hb4
  simp at hb4
  simp [hb4]
  by_cases hlen : A.length = r.size
  · have hne : ¬ A = [] := fun e => by rw [e] at hlen; simp at hlen; omega
    have cm := w_Min A hA hne
    have hAl : listI A = .sl A.length (A.map (.int .i64)) := by rw [listI_ne hne]; rfl
    have cm' : AH.Pure Try.prog 66 [.sl A.length (A.map (.int .i64))] (.int .i64 (minK A (A.length - 1))) := cm
    refine awp_draw_text (by kernel_rfl) [9, 18, 23] [(.fn (.func 45) [] [], [.agg [.int .i64 r.m, .int .i64 r.c, rowsA r.next]], .int .i64 0), (.fn (.func 58) [] [], [.int .i64 r.m, .int .i64 r.c], .int .i64 (r.size : Nat)),
      (.fn (.func 66) [] [], [.sl A.length (A.map (.int .i64))], .int .i64 (minK A (A.length - 1)))] (by kernel_rfl) (by kernel_rfl) (by simp; exact ⟨PureV.of cc, PureV.of cs, PureV.of cm'⟩) ?_
    have hlenI : (A.length : Int) = (r.size : Int) := by omega
    simp [hb3, hb4, hAl, hlen, hlenI, gamGet_here, gamGet_cons]
    have hmn := minK_neg A (A.length - 1)
    rw [hlen] at hmn
    refine condA_case (fun hneg => ?_) fun hneg => ?_
    · have hF : isRankF r A = false := by
        obtain ⟨j, j1, j2⟩ := hmn.1 (by simpa using hneg)
        have hj : j < A.length := by omega
        have : A.any (fun x => decide (x < 0)) = true := List.any_eq_true.2 ⟨A[j], List.getElem_mem hj, by simpa [hj] using j2⟩
        simp [isRankF, this]
      simp [hb3, hb4]
      exact finA_drop (by rw [hF])
    · have hnn : A.any (fun x => decide (x < 0)) = false := by
        cases hc : A.any (fun x => decide (x < 0)) with
        | false => rfl
        | true =>
          obtain ⟨x, hx, hx2⟩ := List.any_eq_true.1 hc
          obtain ⟨j, hj, rfl⟩ := List.getElem_of_mem hx
          exact absurd (hmn.2 ⟨j, by omega, by simpa [hj] using hx2⟩) (by simpa using hneg)
      have hF : isRankF r A = fallOn r A r.size := by simp [isRankF, hlen, hnn]
      have cn := newJudge_at r hr false (((AHeap.empty.upd b2 (.cells [.int .i64 r.m, .int .i64 r.c, rowsA r.next])).upd b3 (.cells [listI A])).upd b4 (.cells [.bool false]))
      rw [hav, hAl, hlen] at cn
      simp [hb3, hb4]
      refine ACalls.mono cn ?_
      rintro _ _ ⟨bj, rfl, rfl, hbj⟩
      have hja := JAt_new r false bj (((AHeap.empty.upd b2 (.cells [.int .i64 r.m, .int .i64 r.c, rowsA r.next])).upd b3 (.cells [.sl r.size (A.map (.int .i64))])).upd b4 (.cells [.bool false]))
      obtain ⟨HH, hHH⟩ : ∃ HH, HH = ((((AHeap.empty.upd b2 (.cells [.int .i64 r.m, .int .i64 r.c, rowsA r.next])).upd b3 (.cells [.sl r.size (A.map (.int .i64))])).upd b4 (.cells [.bool false])).upd bj (.cells (jCells r false bj))) := ⟨_, rfl⟩
      rw [← hHH] at hja ⊢
      simp at hbj
      have g3 : ∀ off, cellsAt HH b3 off = some (([.sl r.size (A.map (.int .i64))] : List AV).drop off) := by intro off; rw [hHH]; simp [hb3, hb4, hbj]
      have g4 : ∀ off, cellsAt HH b4 off = some (([.bool false] : List AV).drop off) := by intro off; rw [hHH]; simp [hb3, hb4, hbj]
      have gj : ∀ off, cellsAt HH bj off = some ((jCells r false bj).drop off) := hja
      simp [gj, jCells]
      refine awp_loop_g (γ := Nat) (fun n t h => (n ≤ r.size) ∧ (fallOn r A n = true) ∧ t 3 = .ptr b3 0 ∧ t 4 = .ptr b4 0 ∧ t 5 = .ptr bj 0 ∧ t 31 = .int .i64 (r.size : Nat) ∧ t 32 = .int .i64 n ∧ h = HH) (fun n => r.size - n) (0) (turnA_self (by simp [fallOn])) ?_
      rintro n t hx ⟨hn, hal, h3, h4, h5, h31, h32, ex⟩
      rw [ex]
      clear ex
      by_cases hlt : n < r.size
      · have hwn : IntKind.i64.wrap ((n : Int) + 1) = (n : Int) + 1 := wrap_i64 (by omega) (by omega)
        simp [h3, h4, h5, h31, h32, hlt]
        intro b6 hb6
        have n3 := ne_fresh (g3 0) hb6
        have n4 := ne_fresh (g4 0) hb6
        have nj := ne_fresh (gj 0) hb6
        have hj6 : JAt r false bj (HH.upd b6 (.cells [.int .i64 n])) := hja.upd (by rcases hb6 with hb6; simpa [Fresh] using hb6)
        have cg := w_good r hr false bj _ hj6 n hlt
        have cm := w_moves false bj (HH.upd b6 (.cells [.int .i64 n])) hj6.ne n
        have hal1 := fallOn_succ r A n
        rw [hal, Bool.true_and] at hal1
        simp [h3, h4, h5, h31, h32]
        refine cg.use ?_
        simp [h3, h4, h5, h31, h32]
        refine condA_case (fun hgd => ?_) fun hgd => ?_
        · simp [h3, h4, h5, h31, h32]
          refine turnA_to HH (Drop.new (Drop.refl _) hb6) ⟨n + 1, by omega, by omega, by rw [hal1, hgd]; rfl, by simp [h3, h4, h5, h31, h32, hwn]⟩
        · simp [h3, h4, h5, h31, h32]
          refine awp_draw_text (by kernel_rfl) [] [] (by kernel_rfl) (by kernel_rfl) (by simp) ?_
          simp [h3, h4, h5, h31, h32, n3, n4, nj, gj, jCells]
          refine ACallV.mono cm ?_
          rintro _ _ ⟨rfl, rfl⟩
          simp [h3, h4, h5, h31, h32]
          refine awp_iterH (fun _ _ _ q ql => JAt.upd q ql) (S := JAt r false bj) (by simp [mvFn]) (it_single r hr false bj n hlt) (fun (g : Bool) h => h = HH.upd b6 (.cells [.int .i64 n])) (by rintro g _ rfl; exact hj6)
            (fun g t => g && decide (A.getD t 0 < A.getD n 0)) (fun g => if g then none else some .ret) true rfl rfl (by kernel_rfl) (by kernel_rfl) (by simp) (by intro a _; rfl) (.inl rfl) ?_ ?_ ?_
          · rintro l i g a h ha _ hj rfl
            obtain rfl : g = true := by
              cases g with
              | true => rfl
              | false => simp at hj
            have hat := succF_lt hr n a (List.mem_of_getElem? ha)
            have hgA : A.getD a 0 = A[a]'(by omega) := by simp [hlen, hat]
            have hgN : A.getD n 0 = A[n]'(by omega) := by simp [hlen, hlt]
            rw [hgA, hgN]
            simp [h3, h4, h5, h31, h32, putsA]
            refine awp_draw_text (by kernel_rfl) [] [] (by kernel_rfl) (by kernel_rfl) (by simp) ?_
            simp [h3, h4, h5, h31, h32, g3, n3, n4, hlen, hlt, hat]
            refine condA_case (fun hc => ?_) fun hc => ?_
            · have hdn : ¬ (A[a]'(by omega) < A[n]'(by omega)) := by have := of_decide_eq_true hc; omega
              simp [h3, h4, h5, h31, h32, g4, n4, hdn]
              have w4 : (HH.upd b6 (.cells [.int .i64 n])).upd b4 (.cells [.bool false]) = HH.upd b6 (.cells [.int .i64 n]) := by
                apply funext
                intro x
                by_cases q : x = b4
                · subst q
                  rw [AHeap.upd_same, AHeap.upd_ne n4.1, hHH]
                  simp [AHeap.upd, hbj]
                · rw [AHeap.upd_ne q]
              rw [w4]
              exact Drop.refl _
            · have hdn : A[a]'(by omega) < A[n]'(by omega) := by have := of_decide_eq_false hc; omega
              simp [h3, h4, h5, h31, h32, hdn]
              exact Drop.refl _
          · intro g e he
            cases g <;> simp at he
            exact .inl he.symm
          · rintro _ rfl
            have hrun := runIt_and (fun t => decide (A.getD t 0 < A.getD n 0)) (succF r n) true rfl
            have hgo : (fun g : Bool => (if g then none else some Exit.ret : Option Exit).isNone) = fun g => g := by funext g; cases g <;> rfl
            rw [hgo, hrun]
            have hfl : ((succF r n).all fun t => decide (A.getD t 0 < A.getD n 0)) = fallF r A n := rfl
            rw [hfl]
            cases hq : fallF r A n with
            | true =>
              simp [h3, h4, h5, h31, h32]
              refine turnA_to HH (Drop.new (Drop.refl _) hb6) ⟨n + 1, by omega, by omega, by rw [hal1, hq]; simp, by simp [h3, h4, h5, h31, h32, hwn]⟩
            | false =>
              have := fallOn_cut hlt hgd hq
              simp [h3, h4, h5, h31, h32, g4, n4]
              refine finA_drop ?_
              rw [hF, this]
      · have hnE : n = r.size := by omega
        simp [h3, h4, h5, h31, h32, hlt, g4]
        refine finA_drop ?_
        rw [hF, ← hnE, hal]
  · have hF : isRankF r A = false := by simp [isRankF, hlen]
    have hlenI : ¬ (A.length : Int) = (r.size : Int) := by omega
    have hln : lenA Try.prog ((((AHeap.empty.upd b2 (.cells [.int .i64 r.m, .int .i64 r.c, rowsA r.next])).upd b3 (.cells [listI A])).upd b4 (.cells [.bool false]))) 25 (listI A) = some (.int .i64 (A.length : Int)) := by
      unfold listI
      split
      · next e => subst e; simp
      · simp [intsA]
    refine awp_draw_text (by kernel_rfl) [9, 18] [(.fn (.func 45) [] [], [.agg [.int .i64 r.m, .int .i64 r.c, rowsA r.next]], .int .i64 0), (.fn (.func 58) [] [], [.int .i64 r.m, .int .i64 r.c], .int .i64 (r.size : Nat))] (by kernel_rfl) (by kernel_rfl) (by simp; exact ⟨PureV.of cc, PureV.of cs⟩) ?_
    simp [hb3, hb4, hlen, hlenI, gamGet_here, gamGet_cons, -lenA, hln]
    exact finA_drop (by rw [hF])
end Go.Proofs

end
