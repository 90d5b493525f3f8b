/-
  Flow: the capacity of a set.
-/
import Derived.Test.YtpnikgfpcgaboaaFlG
set_option linter.unusedSimpArgs false
set_option linter.unusedVariables false
set_option linter.unusedSectionVars false
namespace Go.Proofs
open Go Go.AH
set_option maxRecDepth 10000
set_option maxHeartbeats 4000000

theorem meth_arcs : methodA Try.prog 107 "minikin/flow.arcs" = some 125 := by kernel_rfl
def capStep (s : List Int) (g : Int) (x : RArc) : Int := if (s.contains x.a && !s.contains x.b) = true then IntKind.i64.wrap (g + x.c) else if (s.contains x.b && !s.contains x.a) = true then IntKind.i64.wrap g else g
theorem w_capacity (n : Int) (l : List RArc) (hl : l.length ≤ 1000000) (s : List Int) (hs : s.length ≤ 1000000) (b : Nat) (H : AHeap) (hb : NAt n l b H) :
    ACalls Try.prog 52 [.iface 107 (.ptr b 0), intL s] H fun r h' => r = .int .i64 (l.foldl (capStep s) 0) ∧ h' = H := by
  refine acalls_of Try.func52 rfl Try.call52 (by kernel_rfl) (by show _ ≤ (40 : Nat); simp) ?_
  have hb0 : ∀ off, cellsAt H b off = some (([.int .i64 n, arcsL l] : List AV).drop off) := hb
  have hbn : H b ≠ none := fun q => by have := hb0 0; simp [cellsAt, q] at this
  obtain ⟨S, hS⟩ : ∃ S, S = intL s := ⟨_, rfl⟩
  have hS1 : S.one = true := by rw [hS]; simp
  have hS2 : S.fit = true := by rw [hS]; simp
  have hS3 : S.cells = [S] := by rw [hS]; simp
  rw [← hS]
  simp [hS1, hS2, hS3]
  intro b3 hb3
  have n3 := ne_fresh (hb0 0) hb3
  simp [hS1, hS2, hS3]
  intro b5 hb5
  simp at hb5
  simp [hb5]
  have nb5 : H b5 = none := by have := hb5.2.2; simpa [Fresh] using this
  have nb3 : H b3 = none := by simpa [Fresh] using hb3
  have ca := w_arcs b ((H.upd b3 (.cells [S])).upd b5 (.cells [.int .i64 0])) (by
    have h1 : b ≠ b3 := fun q => hbn (q ▸ nb3)
    have h2 : b ≠ b5 := fun q => hbn (q ▸ nb5)
    rw [AHeap.upd_ne h2, AHeap.upd_ne h1]; exact hbn)
  unfold arcFn at ca
  unfold invRes
  simp only [meth_arcs]
  refine ca.use ?_
  simp
  have nb5' : (H.upd b3 (.cells [S])) b5 = none := by rw [AHeap.upd_ne hb5.1]; exact nb5
  have hrun : ∀ (L : List RArc) (g : Int), runIt (capStep s) (fun _ => (none : Option Exit).isNone) g L = L.foldl (capStep s) g := by
    intro L
    induction L with
    | nil => intro g; rfl
    | cons x L ih => intro g; simp only [runIt, Option.isNone_none, if_true, List.foldl_cons]; exact ih _
  refine awp_iterH (S := NAt n l b) (fun h x c q hx => q.upd hx) (by simp) (it_arcs n l hl b) (fun (g : Int) h => h = (H.upd b3 (.cells [S])).upd b5 (.cells [.int .i64 g])) (by rintro g _ rfl; exact (hb.upd nb3).upd nb5') (capStep s) (fun _ => none) 0 rfl rfl (by kernel_rfl) (by kernel_rfl) (by simp) (by intro a _; simp [arcE]) (.inl rfl) ?_ ?_ ?_
  · rintro lp i g x h ha0 _ _ rfl
    simp [arcE, arcV, putsA]
    intro b6 hb6
    simp [hb5] at hb6
    simp [hb5, hb6, splice]
    have c1 := w_contains s hs x.a
    have c2 := w_contains s hs x.b
    rw [← hS] at c1 c2
    have hst : capStep s g x = if (s.contains x.a && !s.contains x.b) = true then IntKind.i64.wrap (g + x.c) else if (s.contains x.b && !s.contains x.a) = true then IntKind.i64.wrap g else g := rfl
    by_cases hab : x.a = x.b
    · rw [← hab] at c2 hst ⊢
      generalize s.contains x.a = pa at c1 hst
      have hst' : capStep s g x = g := by rw [hst]; cases pa <;> rfl
      rw [hst']
      refine awp_draw_text (by kernel_rfl) [17, 21] [(.fn (.func 60) [] [], [S, .int .i64 x.a], .bool pa)] (by kernel_rfl) (by kernel_rfl) (by simp; exact PureV.of c1) ?_
      simp [hb5, hb6]
      cases pa <;> (simp [hb5, hb6]; exact Drop.new (Drop.refl _) (by simp [hb5, hb6]))
    · have hba : ¬ x.b = x.a := fun e => hab e.symm
      generalize s.contains x.a = pa at c1 hst
      generalize s.contains x.b = pb at c2 hst
      rw [hst]
      refine awp_draw_text (by kernel_rfl) [17, 21] [(.fn (.func 60) [] [], [S, .int .i64 x.a], .bool pa), (.fn (.func 60) [] [], [S, .int .i64 x.b], .bool pb)] (by kernel_rfl) (by kernel_rfl) (by simp; exact ⟨PureV.of c1, PureV.of c2⟩) ?_
      simp [hb5, hb6, hab, hba]
      cases pa <;> cases pb <;> simp [hb5, hb6]
      all_goals exact Drop.new (Drop.refl _) (by simp [hb5, hb6])
  · intro g e he; cases he
  · rintro h' rfl
    rw [hrun]
    simp [hb5]
    refine finA_same H (Drop.new (Drop.new (Drop.refl _) hb3) (by simp [hb5])) ⟨rfl, rfl⟩
def capF (l : List RArc) (s : List Int) : Int := l.foldl (capStep s) 0
def capacityF (n : Int) (l : List RArc) (s : List Int) : AV := if chkNet n l ≠ 0 then .tup [.int .i64 0, .int .i64 (chkNet n l)] else if okFrom n (-1) s = true then .tup [.int .i64 (capF l s), .int .i64 0] else .tup [.int .i64 0, .int .i64 1]
theorem w_Capacity (n : Int) (l : List RArc) (hl : l.length ≤ 1000000) (s : List Int) (hs : s.length ≤ 1000000) : Pure Try.prog 13 [netV n l, intL s] (capacityF n l s) := by
  refine pure_of (acalls_of Try.func13 rfl Try.call13 (by kernel_rfl) (by show _ ≤ (20 : Nat); simp) ?_)
  have ck := w_CheckN n l hl
  have ci := w_isSet n s hs
  have hca : ∀ b2, ACalls Try.prog 52 [.iface 107 (.ptr b2 0), intL s] (AHeap.empty.upd b2 (.cells [.int .i64 n, arcsL l])) fun r h' => r = .int .i64 (capF l s) ∧ h' = AHeap.empty.upd b2 (.cells [.int .i64 n, arcsL l]) := fun b2 => w_capacity n l hl s hs b2 _ (fun off => by simp)
  unfold netV at ck ⊢
  unfold capacityF
  generalize chkNet n l = e at ck
  generalize okFrom n (-1) s = ok at ci
  generalize capF l s = cp at hca
  obtain ⟨V, hV⟩ : ∃ V, V = arcsL l := ⟨_, rfl⟩
  have hV1 : V.one = true := by rw [hV]; simp
  have hV2 : V.fit = true := by rw [hV]; simp
  have hV3 : V.cells = [V] := by rw [hV]; simp
  rw [← hV] at ck hca ⊢
  simp
  intro b2 hb2
  simp [hV1, hV2, hV3]
  refine ck.use ?_
  by_cases h0 : e = 0
  · subst h0
    simp
    refine ci.use ?_
    cases ok with
    | false =>
      simp
      exact finA_drop rfl
    | true =>
      simp
      refine (hca b2).use ?_
      simp
      exact finA_drop rfl
  · simp [h0]
    exact finA_drop rfl
end Go.Proofs
