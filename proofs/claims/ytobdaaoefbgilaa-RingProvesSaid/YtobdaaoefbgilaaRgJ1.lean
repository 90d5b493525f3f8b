/-
  Ring: the judge: newJudge, good; iterators that read a block of one's own.
-/
import Derived.Test.YtobdaaoefbgilaaRgH0
set_option linter.unusedSimpArgs false
set_option linter.unusedVariables false
set_option linter.unusedSectionVars false
namespace Go.AH
open Go
/-- As Iter, where the heap keeps to S throughout. -/
def IterH (P : Program) (S : AHeap → Prop) (fv : AV) {α : Type} (enc : α → List AV) (L : List α) (fin : Bool) : Prop :=
  ∀ (γ : Type) (I : γ → AHeap → Prop) (step : γ → α → γ) (go : γ → Bool) (y : AV) (g0 : γ) (h0 : AHeap), (∀ g h, I g h → S h) → go g0 = true → I g0 h0 → (fin = true ∨ go (runIt step go g0 L) = false) →
    (∀ i g a h, L[i]? = some a → g = (L.take i).foldl step g0 → go g = true → I g h → ACallV P y (enc a) h fun r h' => r = .bool (go (step g a)) ∧ I (step g a) h') →
    ACallV P fv [y] h0 fun _ h' => I (runIt step go g0 L) h'

section
variable {P : Program} {N : Nat} {t : AF} {h : AHeap}
theorem awp_iterH {S : AHeap → Prop} (hSu : ∀ h l c, S h → h l = none → S (h.upd l c)) {g : Operand} {ps : Array Tmp} {asg b : Code} {Q : Exit → AF → AHeap → Prop} {f : FuncId} {first caps : List AV} {α : Type} {enc : α → List AV} {L : List α} {fin : Bool}
    (hg : evalA t g = .fn (.func f) first caps) (it : IterH P S (.fn (.func f) first caps) enc L fin) {γ : Type} (J : γ → AHeap → Prop) (hJS : ∀ g h, J g h → S h) (step : γ → α → γ) (jump : γ → Option Exit) (g0 : γ) (hj0 : jump g0 = none) (h0 : J g0 h)
    (hk1 : codeOk N asg = true) (hk2 : codeOk N b = true) (hps : ∀ p ∈ ps.toList, p < N) (hlen : ∀ a ∈ L, ps.size = (enc a).length)
    (hfin : fin = true ∨ (jump (runIt step (fun g => (jump g).isNone) g0 L)).isNone = false)
    (body : ∀ l i g a h, L[i]? = some a → g = (L.take i).foldl step g0 → jump g = none → J g h → awp P (some l) N asg (thenA (awp P (some l) N b (fun e _ h2 => e = (jump (step g a)).getD .normal ∧ ∃ h3, Drop h2 h3 ∧ J (step g a) h3)) (fun _ _ _ => False)) (putsA t ps.toList (enc a)) h)
    (hjump : ∀ g e, jump g = some e → e = .ret ∨ ∃ id, e = .exit id)
    (after : ∀ h', J (runIt step (fun g => (jump g).isNone) g0 L) h' → Q ((jump (runIt step (fun g => (jump g).isNone) g0 L)).getD .normal) t h') : AWP P none N (.rangeFunc g ps asg b) Q t h := by
  have jc : ∀ g, ∃ j, jumpOf ((jump g).getD .normal) = some j ∧ j.isNone = (jump g).isNone ∧ ∀ Q h, Q ((jump g).getD .normal) t h → afterA Q t h j := by
    intro g
    cases hj : jump g with
    | none => exact ⟨none, rfl, rfl, fun Q h q => q⟩
    | some e =>
      rcases hjump g e hj with rfl | ⟨id, rfl⟩
      · exact ⟨some .ret, rfl, rfl, fun Q h q => q⟩
      · exact ⟨some (.exit id), rfl, rfl, fun Q h q => q⟩
  refine awp_rangeF hg fun l r hl hr hp hN e1 e2 e3 => ?_
  have hp' : recOf r none = r := by
    cases r; simp only at hr hp; subst hr; subst hp; rfl
  refine ACalls.mono (ACalls.funcs (it γ (fun g h' => ∃ h1 j, h' = h1.upd l (.loop (recOf r j) t) ∧ h1 l = none ∧ J g h1 ∧ jumpOf ((jump g).getD .normal) = some j) step (fun g => (jump g).isNone) (.fn (.yield l) [] []) g0 _ (fun g h' => ?_) (by simp [hj0]) ⟨h, none, by rw [hp'], hl, h0, by simp [hj0, jumpOf]⟩ hfin ?_)) ?_
  · rintro ⟨h1, j, rfl, h1l, hJ, _⟩
    exact hSu _ _ _ (hJS _ _ hJ) h1l
  · rintro i g a h' ha hgi hgo ⟨h1, j, rfl, h1l, hJ, hj⟩
    have hjn : jump g = none := by simpa using hgo
    rw [hjn] at hj
    simp only [Option.getD_none, jumpOf, Option.some.injEq] at hj
    subst hj
    rw [hp', ACallV_yield]
    refine ayield_of h1l hr hN (by rw [e1]; exact hps) (by rw [e1]; exact hlen a (List.mem_of_getElem? ha)) (by rw [e2]; exact hk1) (by rw [e3]; exact hk2) ?_
    rw [e1, e2, e3]
    refine awp_mono _ _ _ _ _ (fun e t' h' q => ?_) (body l i g a h1 ha hgi hjn hJ)
    cases e <;> first | exact q | skip
    simp only [thenA_normal] at q ⊢
    refine awp_mono _ _ _ _ _ (fun e t2 h2 q => ?_) q
    obtain ⟨rfl, h3, hd, q⟩ := q
    obtain ⟨j, j1, j2, j3⟩ := jc (step g a)
    rw [j1]
    exact ⟨h3, hd, fun h2l => ⟨by rw [j2], h3, j, rfl, h2l, q, rfl⟩⟩
  · rintro r' h' ⟨h1, j, rfl, h1l, hJ, hj⟩
    obtain ⟨j', j1, j2, j3⟩ := jc (runIt step (fun g => (jump g).isNone) g0 L)
    rw [hj] at j1; cases j1
    exact ⟨h1, j, rfl, h1l, j3 _ _ (after _ hJ)⟩
end
end Go.AH
namespace Go.Proofs
open Go Go.AH
set_option maxRecDepth 10000
set_option maxHeartbeats 4000000

/-- The machines that are ready, for each configuration. -/
def readyL (r : Rul) (n : Nat) : List AV := (List.range n).map fun k => listA (readyF r (ofF r.c r.m k))
def jMoves (joint : Bool) (b : Nat) : AV := .fn (.func (if joint = true then 74 else 73)) [.ptr b 0] []
def jCells (r : Rul) (joint : Bool) (b : Nat) : List AV := [.int .i64 r.m, .int .i64 r.c, rowsA r.next, .int .i64 (r.size : Nat), .sl r.size (readyL r r.size), jMoves joint b]
/-- The judge's block. -/
def JAt (r : Rul) (joint : Bool) (b : Nat) (h : AHeap) : Prop := ∀ off, cellsAt h b off = some ((jCells r joint b).drop off)
theorem JAt.upd {r : Rul} {joint : Bool} {b : Nat} {h : AHeap} (e : JAt r joint b h) {l : Nat} {c : Chunk} (hl : h l = none) : JAt r joint b (h.upd l c) := by
  intro off
  have hne : b ≠ l := fun q => by have := e 0; subst q; simp [cellsAt, hl] at this
  have := e off
  unfold cellsAt at this ⊢
  rw [AHeap.upd_ne hne]
  exact this

theorem readyL_succ (r : Rul) (n : Nat) : readyL r (n + 1) = readyL r n ++ [listA (readyF r (ofF r.c r.m n))] := by simp [readyL, List.range_succ]
@[simp] theorem readyL_len (r : Rul) (n : Nat) : (readyL r n).length = n := by simp [readyL]

theorem w_newJudge (r : Rul) (hr : r.ok) (joint : Bool) : ACalls Try.prog 62 [r.av, .bool joint] AHeap.empty fun a h => ∃ b, a = .ptr b 0 ∧ h = AHeap.empty.upd b (.cells (jCells r joint b)) := by
  refine acalls_of Try.func62 rfl Try.call62 (by kernel_rfl) (by show _ ≤ (49 : Nat); simp) ?_
  have q1 := hr.m2; have q2 := hr.m6; have q3 := hr.c2; have q4 := hr.c6; have q5 := hr.sz
  have cs := w_size r.m r.c q1 q2 q3 q4 q5
  obtain ⟨S, hS⟩ : ∃ S, S = r.size := ⟨_, rfl⟩
  have hSp : (pw r.c r.m : Nat) = S := hS.symm
  rw [hSp] at cs
  simp only [Rul.av]
  simp
  intro b2 hb2
  simp
  refine awp_draw_text (by kernel_rfl) [12] [(.fn (.func 58) [] [], [.int .i64 r.m, .int .i64 r.c], .int .i64 (S : Int))] (by kernel_rfl) (by kernel_rfl) (by simp; exact PureV.of cs) ?_
  simp [gamGet_here, splice]
  intro b5 hb5
  simp at hb5
  simp [hb5]
  refine awp_loop_g (γ := At) (fun q t h => (q.i ≤ S) ∧ ((q.o = none ↔ q.i = 0) ∧ ¬ q.o = some b2 ∧ ¬ q.o = some b5) ∧ t 1 = .bool joint ∧ t 2 = .ptr b2 0 ∧ t 5 = .ptr b5 0 ∧ t 18 = .int .i64 S ∧ t 19 = .int .i64 q.i ∧ h = ((AHeap.empty.upd b2 (.cells [.int .i64 r.m, .int .i64 r.c, rowsA r.next])).upd b5 (.cells [.int .i64 r.m, .int .i64 r.c, rowsA r.next, .int .i64 S, ownV q.o q.i 1, .nilfn])).updO q.o (readyL r q.i)) (fun q => S - q.i) (⟨0, none⟩) (turnA_self (by simp [hb5, readyL])) ?_
  rintro q t h ⟨hi, ho, h1, h2, h5, h18, h19, rfl⟩
  obtain ⟨i, o⟩ := q
  simp only at h1 h2 h5 h18 h19 hi ho
  obtain ⟨ho1, ho2, ho3⟩ := ho
  by_cases hlt : i < S
  · have hwi : IntKind.i64.wrap ((i : Int) + 1) = (i : Int) + 1 := wrap_i64 (by omega) (by omega)
    have cf := of_cfg hr i
    have c1 := w_config r hr i (by omega)
    have c2 := w_ready r hr (ofF r.c r.m i) cf
    simp only [Rul.av] at c1 c2
    have hs := readyL_succ r i
    simp [h1, h2, h5, h18, h19, hlt, hb5]
    refine awp_draw_text (by kernel_rfl) [30, 31] [(.fn (.func 59) [] [], [.agg [.int .i64 r.m, .int .i64 r.c, rowsA r.next], .int .i64 i], cfgA (ofF r.c r.m i)),
      (.fn (.func 51) [] [], [.agg [.int .i64 r.m, .int .i64 r.c, rowsA r.next], cfgA (ofF r.c r.m i)], listA (readyF r (ofF r.c r.m i)))] (by kernel_rfl) (by kernel_rfl) (by simp; exact ⟨PureV.of c1, PureV.of c2⟩) ?_
    have hone : (listA (readyF r (ofF r.c r.m i))).one = true := by unfold listA; split <;> rfl
    simp [h1, h2, h5, h18, h19, hb5, ho2, ho3, gamGet_here, gamGet_cons, cfgA]
    intro b1 hb1
    simp [ho2, ho3] at hb1
    simp [h1, h2, h5, h18, h19, hb1, hb5, ho2, ho3]
    refine appendA_updO (by omega) (by omega) (fun e => by rw [ho1.1 e]; rfl) (by simp) (by simp) (by simp [ho2, ho3, hb1]) fun b' hb' => ?_
    simp at hb'
    simp [h1, h2, h5, h18, h19, hb1, hb5, hb', ho2, ho3]
    refine turnA_to (((AHeap.empty.upd b2 (.cells [.int .i64 r.m, .int .i64 r.c, rowsA r.next])).upd b5 (.cells [.int .i64 r.m, .int .i64 r.c, rowsA r.next, .int .i64 S, ownV (some b') (i + 1) 1, .nilfn])).updO (some b') (readyL r (i + 1))) ?_ ⟨⟨i + 1, some b'⟩, by simp only; omega, by simp only; omega, by simp [hb'], by simp [h1, h2, h5, h18, h19, hwi]⟩
    rw [hs]
    simp
    exact Drop.both (Drop.new (Drop.refl _) (by simp [hb1]))
  · obtain rfl : i = S := by omega
    have hsp : 0 < r.size := pw_pos (by omega) _
    cases o with
    | none => have := ho1.1 rfl; omega
    | some bo =>
      have nb : ¬ bo = b2 ∧ ¬ b2 = bo ∧ ¬ bo = b5 ∧ ¬ b5 = bo := ⟨fun q => ho2 (by rw [q]), fun q => ho2 (by rw [q]), fun q => ho3 (by rw [q]), fun q => ho3 (by rw [q])⟩
      have hfz : ∀ a ∈ readyL r i, a.frozen = true := by
        intro a ha
        obtain ⟨k, _, rfl⟩ := List.mem_map.1 ha
        unfold listA
        split <;> simp [AV.frozen]
      have hlen := readyL_len r i
      have fin : ∀ (j : Bool), finA (fun a h => ∃ b, a = .ptr b 0 ∧ h = AHeap.empty.upd b (.cells (jCells r j b))) (.ptr b5 0) (((AHeap.empty.upd b2 (.cells [.int .i64 r.m, .int .i64 r.c, rowsA r.next])).upd b5 (.cells [.int .i64 r.m, .int .i64 r.c, rowsA r.next, .int .i64 i, .osl bo 0 i 1, jMoves j b5])).upd bo (.cells (readyL r i))) := by
        intro j
        refine ⟨2, AHeap.empty.upd b5 (.cells (jCells r j b5)), .ptr b5 0, ?_, .inl rfl, b5, rfl, rfl⟩
        refine SubH.one 2 (jCells r j b5) (cs := [.int .i64 r.m, .int .i64 r.c, rowsA r.next, .int .i64 i, .osl bo 0 i 1, jMoves j b5]) (by simp [AHeap.upd, nb]) ?_
        obtain ⟨H1, hH1⟩ : ∃ H1, H1 = ((AHeap.empty.upd b2 (.cells [.int .i64 r.m, .int .i64 r.c, rowsA r.next])).upd b5 (.cells [.int .i64 r.m, .int .i64 r.c, rowsA r.next, .int .i64 i, .osl bo 0 i 1, jMoves j b5])).upd bo (.cells (readyL r i)) := ⟨_, rfl⟩
        obtain ⟨H2, hH2⟩ : ∃ H2, H2 = AHeap.empty.upd b5 (.cells (jCells r j b5)) := ⟨_, rfl⟩
        rw [← hH1, ← hH2]
        have f1 : cellsAt H1 bo 0 = some (readyL r i) := by rw [hH1]; simp
        have f2 : Fresh H2 bo := by rw [hH2]; simp [Fresh, AHeap.upd, nb, AHeap.empty]
        have f3 : H2 b5 ≠ none := by rw [hH2]; simp [AHeap.upd]
        have e1 : frzF 2 H1 H2 (.osl bo 0 i 1) = .sl i (readyL r i) := by
          rw [frz_osl f2, f1]
          simp only
          rw [if_pos (by omega), List.drop_zero, Nat.mul_one, List.take_of_length_le (by omega), map_frozen hfz]
        have e2 : frzF 2 H1 H2 (jMoves j b5) = jMoves j b5 := by
          unfold jMoves
          rw [frz_fn]
          simp [f3]
        simp [e1, e2, jCells]
        exact ⟨by rw [← hS], hS, by rw [← hS]⟩
      simp [h1, h2, h5, h18, h19, hb5, nb]
      cases joint with
      | false =>
        simp [h1, h2, h5, h18, h19, hb5, nb]
        exact fin false
      | true =>
        simp [h1, h2, h5, h18, h19, hb5, nb]
        exact fin true
end Go.Proofs
