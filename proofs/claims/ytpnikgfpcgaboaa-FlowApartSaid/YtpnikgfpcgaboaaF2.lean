/-
  Texts: FlG0 FlG FlH FlL1.
-/
import Derived.Test.YtpnikgfpcgaboaaF1
set_option linter.unusedSimpArgs false
set_option linter.unusedVariables false
set_option linter.unusedSectionVars false
section
/-
  Iterators that read a block of one's own.
-/
namespace Go.AH
open Go
/-- As Iter, where the heap keeps to S throughout. -/
def IterH (P : Program) (S : AHeap → Prop) (fv : AV) {α : Type} (enc : α → List AV) (L : List α) (fin : Bool) : Prop :=
  ∀ (γ : Type) (I : γ → AHeap → Prop) (step : γ → α → γ) (go : γ → Bool) (y : AV) (g0 : γ) (h0 : AHeap), (∀ g h, I g h → S h) → go g0 = true → I g0 h0 → (fin = true ∨ go (runIt step go g0 L) = false) →
    (∀ i g a h, L[i]? = some a → g = (L.take i).foldl step g0 → go g = true → I g h → ACallV P y (enc a) h fun r h' => r = .bool (go (step g a)) ∧ I (step g a) h') →
    ACallV P fv [y] h0 fun _ h' => I (runIt step go g0 L) h'

section
variable {P : Program} {N : Nat} {t : AF} {h : AHeap}
theorem awp_iterH {S : AHeap → Prop} (hSu : ∀ h l c, S h → h l = none → S (h.upd l c)) {g : Operand} {ps : Array Tmp} {asg b : Code} {Q : Exit → AF → AHeap → Prop} {f : FuncId} {first caps : List AV} {α : Type} {enc : α → List AV} {L : List α} {fin : Bool}
    (hg : evalA t g = .fn (.func f) first caps) (it : IterH P S (.fn (.func f) first caps) enc L fin) {γ : Type} (J : γ → AHeap → Prop) (hJS : ∀ g h, J g h → S h) (step : γ → α → γ) (jump : γ → Option Exit) (g0 : γ) (hj0 : jump g0 = none) (h0 : J g0 h)
    (hk1 : codeOk N asg = true) (hk2 : codeOk N b = true) (hps : ∀ p ∈ ps.toList, p < N) (hlen : ∀ a ∈ L, ps.size = (enc a).length)
    (hfin : fin = true ∨ (jump (runIt step (fun g => (jump g).isNone) g0 L)).isNone = false)
    (body : ∀ l i g a h, L[i]? = some a → g = (L.take i).foldl step g0 → jump g = none → J g h → awp P (some l) N asg (thenA (awp P (some l) N b (fun e _ h2 => e = (jump (step g a)).getD .normal ∧ ∃ h3, Drop h2 h3 ∧ J (step g a) h3)) (fun _ _ _ => False)) (putsA t ps.toList (enc a)) h)
    (hjump : ∀ g e, jump g = some e → e = .ret ∨ ∃ id, e = .exit id)
    (after : ∀ h', J (runIt step (fun g => (jump g).isNone) g0 L) h' → Q ((jump (runIt step (fun g => (jump g).isNone) g0 L)).getD .normal) t h') : AWP P none N (.rangeFunc g ps asg b) Q t h := by
  have jc : ∀ g, ∃ j, jumpOf ((jump g).getD .normal) = some j ∧ j.isNone = (jump g).isNone ∧ ∀ Q h, Q ((jump g).getD .normal) t h → afterA Q t h j := by
    intro g
    cases hj : jump g with
    | none => exact ⟨none, rfl, rfl, fun Q h q => q⟩
    | some e =>
      rcases hjump g e hj with rfl | ⟨id, rfl⟩
      · exact ⟨some .ret, rfl, rfl, fun Q h q => q⟩
      · exact ⟨some (.exit id), rfl, rfl, fun Q h q => q⟩
  refine awp_rangeF hg fun l r hl hr hp hN e1 e2 e3 => ?_
  have hp' : recOf r none = r := by
    cases r; simp only at hr hp; subst hr; subst hp; rfl
  refine ACalls.mono (ACalls.funcs (it γ (fun g h' => ∃ h1 j, h' = h1.upd l (.loop (recOf r j) t) ∧ h1 l = none ∧ J g h1 ∧ jumpOf ((jump g).getD .normal) = some j) step (fun g => (jump g).isNone) (.fn (.yield l) [] []) g0 _ (fun g h' => ?_) (by simp [hj0]) ⟨h, none, by rw [hp'], hl, h0, by simp [hj0, jumpOf]⟩ hfin ?_)) ?_
  · rintro ⟨h1, j, rfl, h1l, hJ, _⟩
    exact hSu _ _ _ (hJS _ _ hJ) h1l
  · rintro i g a h' ha hgi hgo ⟨h1, j, rfl, h1l, hJ, hj⟩
    have hjn : jump g = none := by simpa using hgo
    rw [hjn] at hj
    simp only [Option.getD_none, jumpOf, Option.some.injEq] at hj
    subst hj
    rw [hp', ACallV_yield]
    refine ayield_of h1l hr hN (by rw [e1]; exact hps) (by rw [e1]; exact hlen a (List.mem_of_getElem? ha)) (by rw [e2]; exact hk1) (by rw [e3]; exact hk2) ?_
    rw [e1, e2, e3]
    refine awp_mono _ _ _ _ _ (fun e t' h' q => ?_) (body l i g a h1 ha hgi hjn hJ)
    cases e <;> first | exact q | skip
    simp only [thenA_normal] at q ⊢
    refine awp_mono _ _ _ _ _ (fun e t2 h2 q => ?_) q
    obtain ⟨rfl, h3, hd, q⟩ := q
    obtain ⟨j, j1, j2, j3⟩ := jc (step g a)
    rw [j1]
    exact ⟨h3, hd, fun h2l => ⟨by rw [j2], h3, j, rfl, h2l, q, rfl⟩⟩
  · rintro r' h' ⟨h1, j, rfl, h1l, hJ, hj⟩
    obtain ⟨j', j1, j2, j3⟩ := jc (runIt step (fun g => (jump g).isNone) g0 L)
    rw [hj] at j1; cases j1
    exact ⟨h1, j, rfl, h1l, j3 _ _ (after _ hJ)⟩
end
end Go.AH

end

section
/-
  Flow: the capacity of a set.
-/
namespace Go.Proofs
open Go Go.AH
set_option maxRecDepth 10000
set_option maxHeartbeats 4000000

/-- The network's block. -/
def NAt (n : Int) (l : List RArc) (b : Nat) (h : AHeap) : Prop := ∀ off, cellsAt h b off = some (([.int .i64 n, arcsL l] : List AV).drop off)
theorem NAt.upd {n : Int} {l : List RArc} {b : Nat} {h : AHeap} (e : NAt n l b h) {x : Nat} {c : Chunk} (hx : h x = none) : NAt n l b (h.upd x c) := by
  intro off
  have hne : b ≠ x := fun q => by have := e 0; subst q; simp [cellsAt, hx] at this
  have := e off
  unfold cellsAt at this ⊢
  rw [AHeap.upd_ne hne]
  exact this
def arcFn (b : Nat) : AV := .fn (.func 127) [] [.fptr [.ptr b 0]]
theorem w_arcs (b : Nat) (H : AHeap) (hb : H b ≠ none) : ACalls Try.prog 125 [.ptr b 0] H fun r h' => r = arcFn b ∧ h' = H := by
  refine acalls_of Try.func125 rfl Try.call125 (by kernel_rfl) (by show _ ≤ (4 : Nat); simp) ?_
  simp
  intro b1 hb1
  simp
  refine finA_to 2 H (Drop.new (Drop.refl _) hb1) ⟨?_, rfl⟩
  have hf : H b1 = none := hb1
  simp [arcFn, frzF, hf, hb]
def arcE (x : RArc) : List AV := [arcV x, .int .i64 0]
theorem it_arcs (n : Int) (l : List RArc) (hl : l.length ≤ 1000000) (b : Nat) : IterH Try.prog (NAt n l b) (arcFn b) arcE l true := by
  intro γ I step go y g0 h0 hS hgo hI0 _ hy
  unfold arcFn
  rw [ACallV_func]
  refine acalls_of Try.func127 rfl Try.call127 (by kernel_rfl) (by show _ ≤ (19 : Nat); simp) ?_
  have e0 : ∀ off, cellsAt h0 b off = some (([.int .i64 n, arcsL l] : List AV).drop off) := hS _ _ hI0
  simp [e0, -lenA, lenA_arcsL]
  refine awp_loop_g (γ := Nat × γ) (fun q t h => (q.1 ≤ l.length) ∧ (q.2 = (l.take q.1).foldl step g0) ∧ (go q.2 = true) ∧ (I q.2 h) ∧ (runIt step go g0 l = runIt step go q.2 (l.drop q.1)) ∧ t 0 = y ∧ t 8 = arcsL l ∧ t 9 = .int .i64 l.length ∧ t 10 = .int .i64 q.1) (fun q => l.length - q.1) ((0, g0)) (turnA_self ⟨Nat.zero_le _, rfl, hgo, hI0, rfl, by simp⟩) ?_
  rintro q t h ⟨hi, hg, hq, hI, hrun, h0, h8, h9, h10⟩
  obtain ⟨i, g⟩ := q
  simp only at h0 h8 h9 h10 hi hg hq hI hrun
  by_cases hlt : i < l.length
  · have hw : IntKind.i64.wrap ((i : Int) + 1) = (i : Int) + 1 := wrap_i64 (by omega) (by omega)
    have hne : ¬ l = [] := fun e => by rw [e] at hlt; simp at hlt
    have hV : arcsL l = .sl l.length (arcC l) := by unfold arcsL arcsA; rw [if_neg hne]
    have hat := arcC_at hlt
    have hc := hy i g l[i] h (List.getElem?_eq_getElem hlt) hg hq hI
    have hdr : l.drop i = l[i] :: l.drop (i + 1) := List.drop_eq_getElem_cons hlt
    have hts : (l.take (i + 1)).foldl step g0 = step g l[i] := by rw [List.take_succ_eq_append_getElem hlt, List.foldl_append, ← hg]; rfl
    rw [hdr] at hrun
    obtain ⟨x, hx⟩ : ∃ x, x = l[i] := ⟨_, rfl⟩
    rw [← hx] at hat hc hrun hts
    unfold arcE arcV at hc
    have hi3 : 3 ≤ l.length * 3 - i * 3 := by omega
    have hi4 : min 3 (l.length * 3 - i * 3) = 3 := by omega
    simp [h0, h8, h9, h10, hlt, hV, hat, hi3, hi4]
    intro b4 hb4
    simp [h0, h8, h9, h10, splice]
    refine ACallV.mono (ACallV.keep (c := .cells [.int .i64 x.a, .int .i64 x.b, .int .i64 x.c]) hc hb4) ?_
    rintro r h2 ⟨h1, rfl, hn1, rfl, hI1⟩
    cases hgs : go (step g x) with
    | true =>
      simp [h0, h8, h9, h10]
      refine turnA_to h1 (Drop.new (Drop.refl _) hn1) ?_
      exact ⟨i + 1, by omega, by omega, by rw [hts]; exact hgs, by rw [hts]; exact hI1, by rw [hts, hrun]; simp only [runIt, hgs, if_true], by simp [h0, h8, h9, h10, hw, hV]⟩
    | false =>
      simp [h0, h8, h9, h10]
      refine finA_same h1 (Drop.new (Drop.refl _) hn1) ?_
      rw [hrun]
      simp only [runIt, hgs]
      exact hI1
  · obtain rfl : i = l.length := by omega
    rw [List.drop_length] at hrun
    simp [h0, h8, h9, h10]
    refine finA_self ?_
    rw [hrun]
    exact hI
end Go.Proofs

end

section
/-
  Flow: the capacity of a set.
-/
namespace Go.Proofs
open Go Go.AH
set_option maxRecDepth 10000
set_option maxHeartbeats 4000000

theorem meth_arcs : methodA Try.prog 107 "minikin/flow.arcs" = some 125 := by kernel_rfl
def capStep (s : List Int) (g : Int) (x : RArc) : Int := if (s.contains x.a && !s.contains x.b) = true then IntKind.i64.wrap (g + x.c) else if (s.contains x.b && !s.contains x.a) = true then IntKind.i64.wrap g else g
theorem w_capacity (n : Int) (l : List RArc) (hl : l.length ≤ 1000000) (s : List Int) (hs : s.length ≤ 1000000) (b : Nat) (H : AHeap) (hb : NAt n l b H) :
    ACalls Try.prog 52 [.iface 107 (.ptr b 0), intL s] H fun r h' => r = .int .i64 (l.foldl (capStep s) 0) ∧ h' = H := by
  refine acalls_of Try.func52 rfl Try.call52 (by kernel_rfl) (by show _ ≤ (40 : Nat); simp) ?_
  have hb0 : ∀ off, cellsAt H b off = some (([.int .i64 n, arcsL l] : List AV).drop off) := hb
  have hbn : H b ≠ none := fun q => by have := hb0 0; simp [cellsAt, q] at this
  obtain ⟨S, hS⟩ : ∃ S, S = intL s := ⟨_, rfl⟩
  have hS1 : S.one = true := by rw [hS]; simp
  have hS2 : S.fit = true := by rw [hS]; simp
  have hS3 : S.cells = [S] := by rw [hS]; simp
  rw [← hS]
  simp [hS1, hS2, hS3]
  intro b3 hb3
  have n3 := ne_fresh (hb0 0) hb3
  simp [hS1, hS2, hS3]
  intro b5 hb5
  simp at hb5
  simp [hb5]
  have nb5 : H b5 = none := by have := hb5.2.2; simpa [Fresh] using this
  have nb3 : H b3 = none := by simpa [Fresh] using hb3
  have ca := w_arcs b ((H.upd b3 (.cells [S])).upd b5 (.cells [.int .i64 0])) (by
    have h1 : b ≠ b3 := fun q => hbn (q ▸ nb3)
    have h2 : b ≠ b5 := fun q => hbn (q ▸ nb5)
    rw [AHeap.upd_ne h2, AHeap.upd_ne h1]; exact hbn)
  unfold arcFn at ca
  unfold invRes
  simp only [meth_arcs]
  refine ca.use ?_
  simp
  have nb5' : (H.upd b3 (.cells [S])) b5 = none := by rw [AHeap.upd_ne hb5.1]; exact nb5
  have hrun : ∀ (L : List RArc) (g : Int), runIt (capStep s) (fun _ => (none : Option Exit).isNone) g L = L.foldl (capStep s) g := by
    intro L
    induction L with
    | nil => intro g; rfl
    | cons x L ih => intro g; simp only [runIt, Option.isNone_none, if_true, List.foldl_cons]; exact ih _
  refine awp_iterH (S := NAt n l b) (fun h x c q hx => q.upd hx) (by simp) (it_arcs n l hl b) (fun (g : Int) h => h = (H.upd b3 (.cells [S])).upd b5 (.cells [.int .i64 g])) (by rintro g _ rfl; exact (hb.upd nb3).upd nb5') (capStep s) (fun _ => none) 0 rfl rfl (by kernel_rfl) (by kernel_rfl) (by simp) (by intro a _; simp [arcE]) (.inl rfl) ?_ ?_ ?_
  · rintro lp i g x h ha0 _ _ rfl
    simp [arcE, arcV, putsA]
    intro b6 hb6
    simp [hb5] at hb6
    simp [hb5, hb6, splice]
    have c1 := w_contains s hs x.a
    have c2 := w_contains s hs x.b
    rw [← hS] at c1 c2
    have hst : capStep s g x = if (s.contains x.a && !s.contains x.b) = true then IntKind.i64.wrap (g + x.c) else if (s.contains x.b && !s.contains x.a) = true then IntKind.i64.wrap g else g := rfl
    by_cases hab : x.a = x.b
    · rw [← hab] at c2 hst ⊢
      generalize s.contains x.a = pa at c1 hst
      have hst' : capStep s g x = g := by rw [hst]; cases pa <;> rfl
      rw [hst']
      refine awp_draw_text (by kernel_rfl) [17, 21] [(.fn (.func 60) [] [], [S, .int .i64 x.a], .bool pa)] (by kernel_rfl) (by kernel_rfl) (by simp; exact PureV.of c1) ?_
      simp [hb5, hb6]
      cases pa <;> (simp [hb5, hb6]; exact Drop.new (Drop.refl _) (by simp [hb5, hb6]))
    · have hba : ¬ x.b = x.a := fun e => hab e.symm
      generalize s.contains x.a = pa at c1 hst
      generalize s.contains x.b = pb at c2 hst
      rw [hst]
      refine awp_draw_text (by kernel_rfl) [17, 21] [(.fn (.func 60) [] [], [S, .int .i64 x.a], .bool pa), (.fn (.func 60) [] [], [S, .int .i64 x.b], .bool pb)] (by kernel_rfl) (by kernel_rfl) (by simp; exact ⟨PureV.of c1, PureV.of c2⟩) ?_
      simp [hb5, hb6, hab, hba]
      cases pa <;> cases pb <;> simp [hb5, hb6]
      all_goals exact Drop.new (Drop.refl _) (by simp [hb5, hb6])
  · intro g e he; cases he
  · rintro h' rfl
    rw [hrun]
    simp [hb5]
    refine finA_same H (Drop.new (Drop.new (Drop.refl _) hb3) (by simp [hb5])) ⟨rfl, rfl⟩
def capF (l : List RArc) (s : List Int) : Int := l.foldl (capStep s) 0
def capacityF (n : Int) (l : List RArc) (s : List Int) : AV := if chkNet n l ≠ 0 then .tup [.int .i64 0, .int .i64 (chkNet n l)] else if okFrom n (-1) s = true then .tup [.int .i64 (capF l s), .int .i64 0] else .tup [.int .i64 0, .int .i64 1]
theorem w_Capacity (n : Int) (l : List RArc) (hl : l.length ≤ 1000000) (s : List Int) (hs : s.length ≤ 1000000) : Pure Try.prog 13 [netV n l, intL s] (capacityF n l s) := by
  refine pure_of (acalls_of Try.func13 rfl Try.call13 (by kernel_rfl) (by show _ ≤ (20 : Nat); simp) ?_)
  have ck := w_CheckN n l hl
  have ci := w_isSet n s hs
  have hca : ∀ b2, ACalls Try.prog 52 [.iface 107 (.ptr b2 0), intL s] (AHeap.empty.upd b2 (.cells [.int .i64 n, arcsL l])) fun r h' => r = .int .i64 (capF l s) ∧ h' = AHeap.empty.upd b2 (.cells [.int .i64 n, arcsL l]) := fun b2 => w_capacity n l hl s hs b2 _ (fun off => by simp)
  unfold netV at ck ⊢
  unfold capacityF
  generalize chkNet n l = e at ck
  generalize okFrom n (-1) s = ok at ci
  generalize capF l s = cp at hca
  obtain ⟨V, hV⟩ : ∃ V, V = arcsL l := ⟨_, rfl⟩
  have hV1 : V.one = true := by rw [hV]; simp
  have hV2 : V.fit = true := by rw [hV]; simp
  have hV3 : V.cells = [V] := by rw [hV]; simp
  rw [← hV] at ck hca ⊢
  simp
  intro b2 hb2
  simp [hV1, hV2, hV3]
  refine ck.use ?_
  by_cases h0 : e = 0
  · subst h0
    simp
    refine ci.use ?_
    cases ok with
    | false =>
      simp
      exact finA_drop rfl
    | true =>
      simp
      refine (hca b2).use ?_
      simp
      exact finA_drop rfl
  · simp [h0]
    exact finA_drop rfl
end Go.Proofs

end

section
/-
  Plain law: capacities of unions and intersections.
-/
namespace Go.Proofs
open Go Go.AH
set_option maxRecDepth 10000
set_option maxHeartbeats 4000000

def capN (f : Int → Bool) (l : List RArc) : Int := (l.map fun x => if (f x.a && !f x.b) = true then x.c else 0).sum
theorem cap_eq (s : List Int) : ∀ (l : List RArc) (g : Int), (∀ x ∈ l, 0 ≤ x.c ∧ x.c ≤ 1000000000) → 0 ≤ g → g + l.length * 1000000000 ≤ 1000000000000000 → l.foldl (capStep s) g = g + capN s.contains l ∧ 0 ≤ capN s.contains l ∧ capN s.contains l ≤ l.length * 1000000000
  | [], g, _, _, _ => by simp [capN]
  | x :: l, g, hc, h0, hb => by
    obtain ⟨c1, c2⟩ := hc x (by simp)
    simp only [List.length_cons] at hb
    have hw : ∀ g' : Int, 0 ≤ g' → g' ≤ 1000000000000000 → IntKind.i64.wrap g' = g' := fun g' h1 h2 => wrap_i64 (by omega) (by omega)
    have hcn : capN s.contains (x :: l) = (if (s.contains x.a && !s.contains x.b) = true then x.c else 0) + capN s.contains l := by simp [capN]
    rw [List.foldl_cons, hcn]
    have hst : capStep s g x = g + (if (s.contains x.a && !s.contains x.b) = true then x.c else 0) := by
      unfold capStep
      split
      · exact hw _ (by omega) (by omega)
      · split
        · rw [hw _ h0 (by omega)]; omega
        · omega
    rw [hst]
    have hd : 0 ≤ (if (s.contains x.a && !s.contains x.b) = true then x.c else 0) ∧ (if (s.contains x.a && !s.contains x.b) = true then x.c else 0) ≤ 1000000000 := by split <;> omega
    generalize (if (s.contains x.a && !s.contains x.b) = true then x.c else 0) = d at hd ⊢
    obtain ⟨i1, i2, i3⟩ := cap_eq s l (g + d) (fun y hy => hc y (by simp [hy])) (by omega) (by omega)
    rw [i1]
    simp only [List.length_cons]
    omega
theorem cap_sub {f g u z : Int → Bool} : ∀ (l : List RArc), (∀ x ∈ l, 0 ≤ x.c) → (∀ x ∈ l, u x.a = (f x.a || g x.a) ∧ u x.b = (f x.b || g x.b) ∧ z x.a = (f x.a && g x.a) ∧ z x.b = (f x.b && g x.b)) → capN u l + capN z l ≤ capN f l + capN g l
  | [], _, _ => by simp [capN]
  | x :: l, hc, h => by
    have ih := cap_sub l (fun y hy => hc y (by simp [hy])) (fun y hy => h y (by simp [hy]))
    have c := hc x (by simp)
    obtain ⟨h1, h2, h3, h4⟩ := h x (by simp)
    have hcons : ∀ k : Int → Bool, capN k (x :: l) = (if (k x.a && !k x.b) = true then x.c else 0) + capN k l := fun k => by simp [capN]
    rw [hcons, hcons, hcons, hcons, h1, h2, h3, h4]
    generalize capN u l = cu at *
    generalize capN z l = cz at *
    generalize capN f l = cf at *
    generalize capN g l = cg at *
    cases f x.a <;> cases f x.b <;> cases g x.a <;> cases g x.b <;> simp <;> omega
theorem mem_contains (P s : Nat) (y : Int) : ((memL P s).map fun x : Nat => (x : Int)).contains y = (decide (0 ≤ y) && decide (y < P) && s.testBit y.toNat) := by
  rw [Bool.eq_iff_iff, List.contains_iff_mem]
  simp only [List.mem_map, memL, List.mem_filter, List.mem_range, Bool.and_eq_true, decide_eq_true_eq]
  constructor
  · rintro ⟨x, ⟨h1, h2⟩, rfl⟩
    exact ⟨⟨by omega, by omega⟩, by simpa using h2⟩
  · rintro ⟨⟨h1, h2⟩, h3⟩
    exact ⟨y.toNat, ⟨by omega, h3⟩, by omega⟩
end Go.Proofs

end
