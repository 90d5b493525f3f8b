/-
  Two operations exchanged: what one writes, the other does not touch.
-/
import Derived.Test.YtkdhgablioljnaaAhShape
set_option linter.unusedSimpArgs false
set_option linter.unusedVariables false
set_option linter.unusedSectionVars false
namespace Go.AH
open Go

section
variable {P : Program} {t : AF} {h : AHeap}

def wrB (p : Plan) : List Nat := match p.wr with | some (b, _) => [b] | none => []
inductive Out (p : Plan) (h : AHeap) : AV → Option (Nat × Chunk) → Prop
  | ret : p.wr = none → p.fr = none → Out p h (p.v 0) none
  | new (c : Chunk) (b : Nat) : p.wr = none → p.fr = some c → h b = none → Out p h (p.v b) (some (b, c))
  | put (b : Nat) (c : Chunk) : p.wr = some (b, some c) → p.fr = none → Out p h (p.v 0) (some (b, c))
  | inpl (b : Nat) (c : Chunk) : p.wr = some (b, none) → p.fr = some c → Out p h (p.v b) (some (b, c))
  | move (b : Nat) (c : Chunk) (b' : Nat) : p.wr = some (b, none) → p.fr = some c → h b' = none → Out p h (p.v b') (some (b', c))
def app (h : AHeap) : Option (Nat × Chunk) → AHeap
  | none => h
  | some (b, c) => h.upd b c

theorem runK_iff {acc : List Nat} {p : Plan} {K : AV → AHeap → Prop} (s : Shape acc p) : p.runK h K ↔ ∀ v δ, Out p h v δ → K v (app h δ) := by
  rcases s with h1 | ⟨b, c, h1, h2, _⟩ | ⟨b, c, h1, h2, _⟩
  · cases h2 : p.fr with
    | none =>
      simp only [Plan.runK, Plan.run, Plan.heap, h1, h2]
      constructor
      · intro k v δ o
        cases o <;> simp_all [app]
      · intro k; exact k _ _ (.ret h1 h2)
    | some c =>
      simp only [Plan.runK, Plan.run, Plan.heap, h1, h2]
      constructor
      · intro k v δ o
        cases o <;> simp_all [app]
      · intro k b hb; exact k _ _ (.new c b h1 h2 hb)
  · simp only [Plan.runK, Plan.run, Plan.heap, h1, h2]
    constructor
    · intro k v δ o
      cases o <;> simp_all [app]
    · intro k; exact k _ _ (.put b c h1 h2)
  · simp only [Plan.runK, h1, h2]
    constructor
    · intro k v δ o
      cases o <;> simp_all [app]
    · intro k; exact ⟨k _ _ (.inpl b c h1 h2), fun b' hb' => k _ _ (.move b c b' h1 h2 hb')⟩

theorem out_blk {acc : List Nat} {p : Plan} {v : AV} {d : Nat} {c : Chunk} (s : Shape acc p) (o : Out p h v (some (d, c))) : (d ∈ wrB p ∧ d ∈ acc) ∨ h d = none := by
  cases o with
  | new _ _ _ _ hb => exact .inr hb
  | put _ _ h1 h2 =>
    refine .inl ⟨by simp [wrB, h1], ?_⟩
    rcases s with q | ⟨b, c', q, _, m⟩ | ⟨b, c', q, _, m⟩ <;> rw [h1] at q <;> cases q
    exact m
  | inpl _ _ h1 h2 =>
    refine .inl ⟨by simp [wrB, h1], ?_⟩
    rcases s with q | ⟨b, c', q, _, m⟩ | ⟨b, c', q, _, m⟩ <;> rw [h1] at q <;> cases q
    exact m
  | move _ _ _ h1 h2 hb => exact .inr hb

theorem app_ne {d b : Nat} {c : Chunk} (hn : b ≠ d) : app h (some (d, c)) b = h b := AHeap.upd_ne hn

/-- What may come of p goes on to be so, on another heap, if the fresh block is fresh there. -/
theorem Out.on {p : Plan} {v : AV} {δ : Option (Nat × Chunk)} {h' : AHeap} (o : Out p h v δ) (hf : ∀ d c, δ = some (d, c) → h d = none → h' d = none) : Out p h' v δ := by
  cases o with
  | ret h1 h2 => exact .ret h1 h2
  | new c b h1 h2 hb => exact .new c b h1 h2 (hf _ _ rfl hb)
  | put b c h1 h2 => exact .put b c h1 h2
  | inpl b c h1 h2 => exact .inpl b c h1 h2
  | move b c b' h1 h2 hb => exact .move b c b' h1 h2 (hf _ _ rfl hb)

theorem swapK {x y : Op} {p : Plan} {K : AV → AV → AHeap → Prop} (fin : ∃ N, ∀ b, N ≤ b → h b = none) (cx : planA P t h x = some p) (hn1 : ∀ b ∈ wrB p, b ∉ accA P t y) (hn2 : ∀ q, planA P t h y = some q → ∀ b ∈ wrB q, b ∉ accA P t x)
    (e : p.runK h fun u h1 => ∃ q, planA P t h1 y = some q ∧ q.runK h1 fun v h2 => K u v h2) : ∃ q, planA P t h y = some q ∧ q.runK h fun v h1 => planA P t h1 x = some p ∧ p.runK h1 fun u h2 => K u v h2 := by
  have sp := plan_shape cx
  have px := plan_pres cx
  rw [runK_iff sp] at e
  -- some outcome of x that y does not touch
  have ex : ∃ u δ, Out p h u δ ∧ ∀ d c, δ = some (d, c) → d ∉ accA P t y := by
    rcases sp with h1 | ⟨b, c, h1, h2, _⟩ | ⟨b, c, h1, h2, _⟩
    · cases h2 : p.fr with
      | none => exact ⟨_, _, .ret h1 h2, fun d c q => by cases q⟩
      | some c =>
        obtain ⟨N, hN⟩ := fin
        refine ⟨_, _, .new c (N + (accA P t y).sum + 1) h1 h2 (hN _ (by omega)), fun d c' q => ?_⟩
        cases q
        intro hm
        have : ∀ (l : List Nat) (a : Nat), a ∈ l → a ≤ l.sum := by
          intro l
          induction l with
          | nil => intro a ha; cases ha
          | cons z l ih =>
            intro a ha
            simp only [List.sum_cons]
            rcases List.mem_cons.1 ha with rfl | ha
            · omega
            · have := ih a ha; omega
        have := this _ _ hm
        omega
    · exact ⟨_, _, .put b c h1 h2, fun d c' q => by cases q; exact hn1 b (by simp [wrB, h1])⟩
    · exact ⟨_, _, .inpl b c h1 h2, fun d c' q => by cases q; exact hn1 b (by simp [wrB, h1])⟩
  have cong : ∀ {δ : Option (Nat × Chunk)} {op : Op}, (∀ d c, δ = some (d, c) → d ∉ accA P t op) → planA P t (app h δ) op = planA P t h op := by
    intro δ op hd
    refine plan_cong fun b hb => ?_
    cases δ with
    | none => rfl
    | some q => exact app_ne fun e => hd q.1 q.2 rfl (e ▸ hb)
  obtain ⟨u0, δ0, o0, d0⟩ := ex
  obtain ⟨q, hq, _⟩ := e u0 δ0 o0
  rw [cong d0] at hq
  have sq := plan_shape hq
  have pq := plan_pres hq
  refine ⟨q, hq, (runK_iff sq).2 fun v ε oε => ?_⟩
  have dε : ∀ d c, ε = some (d, c) → d ∉ accA P t x := by
    rintro d c rfl hm
    rcases out_blk sq oε with ⟨q1, _⟩ | q1
    · exact hn2 q hq d q1 hm
    · exact px d hm q1
  refine ⟨(cong dε).trans cx, (runK_iff sp).2 fun u δ oδ => ?_⟩
  -- the blocks are different
  have ne : ∀ d c d' c', δ = some (d, c) → ε = some (d', c') → d ≠ d' := by
    rintro d c d' c' rfl rfl rfl
    rcases out_blk sp oδ with ⟨q1, q2⟩ | q1
    · rcases out_blk sq oε with ⟨q3, q4⟩ | q3
      · exact hn1 d q1 q4
      · exact px d q2 q3
    · simp [app] at q1
  have oδ' : Out p h u δ := oδ.on fun d c hd hf => by
    cases ε with
    | none => exact hf
    | some z => rwa [app_ne (ne d c z.1 z.2 hd rfl)] at hf
  have dδ : ∀ d c, δ = some (d, c) → d ∉ accA P t y := by
    rintro d c rfl hm
    rcases out_blk sp oδ' with ⟨q1, _⟩ | q1
    · exact hn1 d q1 hm
    · exact pq d hm q1
  obtain ⟨q', hq', k⟩ := e u δ oδ'
  rw [cong dδ, hq] at hq'
  cases hq'
  have k2 := (runK_iff sq).1 k v ε (oε.on fun d c hd hf => by
    cases δ with
    | none => exact hf
    | some z => rw [app_ne (fun e => ne z.1 z.2 d c rfl hd e.symm)]; exact hf)
  have comm : app (app h δ) ε = app (app h ε) δ := by
    cases δ with
    | none => rfl
    | some z =>
      cases ε with
      | none => rfl
      | some z' =>
        funext i
        have := ne z.1 z.2 z'.1 z'.2 rfl rfl
        simp only [app, AHeap.upd]
        by_cases i1 : i = z.1 <;> by_cases i2 : i = z'.1 <;> simp_all
  rw [← comm]; exact k2
end
end Go.AH
