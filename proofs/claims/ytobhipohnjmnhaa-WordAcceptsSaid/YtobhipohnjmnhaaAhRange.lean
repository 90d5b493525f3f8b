/-
  Loops over functions: a round's body is told of frames and heaps; an iterator is told by the items that it hands over.
-/
import Derived.Test.YtobhipohnjmnhaaAhDraw
set_option linter.unusedSimpArgs false
set_option linter.unusedVariables false
set_option linter.unusedSectionVars false
namespace Go.AH
open Go

def Drop (h h' : AHeap) : Prop := ∀ b, h' b = none ∨ h' b = h b
theorem Drop.refl (h : AHeap) : Drop h h := fun _ => .inr rfl
theorem Drop.empty (h : AHeap) : Drop h AHeap.empty := fun _ => .inl rfl
theorem Drop.del {h h' : AHeap} {b : Nat} (d : Drop h h') : Drop h (h'.del b) := fun i => by
  by_cases e : i = b
  · subst e; exact .inl AHeap.del_same
  · rw [AHeap.del_ne e]; exact d i
/-- A block that is not in h' may be there before. -/
theorem Drop.upd {h h' : AHeap} {b : Nat} {c : Chunk} (d : Drop h h') (e : h' b = none) : Drop (h.upd b c) h' := fun i => by
  by_cases hi : i = b
  · subst hi; exact .inl e
  · rw [AHeap.upd_ne hi]; exact d i
theorem Drop.new {h h' : AHeap} {b : Nat} {c : Chunk} (d : Drop h h') (e : Fresh h' b) : Drop (h.upd b c) h' := d.upd e
theorem Drop.fresh {h h' : AHeap} {b : Nat} (d : Drop h h') (e : Fresh h b) : Fresh h' b := by
  unfold Fresh at *
  rcases d b with q | q
  · exact q
  · rw [q]; exact e
theorem Drop.both {h h' : AHeap} {b : Nat} {c : Chunk} (d : Drop h h') : Drop (h.upd b c) (h'.upd b c) := fun i => by
  by_cases hi : i = b
  · subst hi; simp
  · rw [AHeap.upd_ne hi, AHeap.upd_ne hi]; exact d i
theorem Drop.sub {h h' : AHeap} (d : Drop h h') (k : Nat) : SubH k h h' := fun b => by
  rcases d b with e | e
  · exact .inl e
  · exact .inr (.inl e)
section
variable {P : Program} {w : World} {h hf : AHeap} {t : AF} {a : Act} {N B : Nat} {b : Nat} {c : Chunk}

theorem AYield.frame {l : Nat} {args : List AV} {R : AV → AHeap → Prop} {h2 : AHeap} (c : AYield P l args h R) (D2 : Disj h h2) : AYield P l args (h.un h2) fun r h' => ∃ h1, h' = h1.un h2 ∧ Disj h1 h2 ∧ R r h1 := by
  intro hf w vs D Rl rs
  obtain ⟨D3, e⟩ := un_cases D D2
  rw [e] at Rl rs
  refine yieldAt_mono (c (h2.un hf) w vs D3 Rl rs) ?_
  rintro en w' ⟨v, r, h1, rfl, q, D1, R1, rv, s⟩
  have Da : Disj h1 h2 := fun b => by
    rcases D1 b with e | e
    · exact .inl e
    · exact .inr (AHeap.un_eq_none.1 e).1
  have Db : Disj h1 hf := fun b => by
    rcases D1 b with e | e
    · exact .inl e
    · exact .inr (AHeap.un_eq_none.1 e).2
  have e1 : (h1.un h2).un hf = h1.un (h2.un hf) := AHeap.un_assoc
  exact ⟨v, r, h1.un h2, rfl, ⟨h1, rfl, Da, q⟩, Disj.un_left Db D.of_un_right, by rw [e1]; exact R1, by rw [e1]; exact rv, ⟨by rw [e, e1]; exact s.ext, fun b hb => s.fr b fun hn => hb (AHeap.un_eq_none.1 hn).2⟩⟩

theorem ACallV.frame {fv : AV} {args : List AV} {R : AV → AHeap → Prop} {h2 : AHeap} (c : ACallV P fv args h R) (D2 : Disj h h2) : ACallV P fv args (h.un h2) fun r h' => ∃ h1, h' = h1.un h2 ∧ Disj h1 h2 ∧ R r h1 := by
  unfold ACallV at *
  split at c
  · exact ACalls.frame c D2
  · exact AYield.frame c D2
  · exact c.elim

theorem un_one {h : AHeap} (e : h b = none) : h.un (AHeap.empty.upd b c) = h.upd b c := by
  funext i
  by_cases hi : i = b
  · subst hi; simp [AHeap.un, AHeap.upd, e]
  · simp only [AHeap.un, AHeap.upd, if_neg hi, AHeap.empty_at]
    cases h i <;> rfl
theorem disj_one {h : AHeap} : Disj h (AHeap.empty.upd b c) ↔ h b = none := by
  constructor
  · intro d
    rcases d b with e | e
    · exact e
    · simp at e
  · intro e i
    by_cases hi : i = b
    · subst hi; exact .inl e
    · exact .inr (by rw [AHeap.upd_ne hi]; rfl)

/-- One block is not the callee's. -/
theorem ACallV.keep {fv : AV} {args : List AV} {R : AV → AHeap → Prop} (q : ACallV P fv args h R) (e : h b = none) : ACallV P fv args (h.upd b c) fun r h' => ∃ h1, h' = h1.upd b c ∧ h1 b = none ∧ R r h1 := by
  have := ACallV.frame q (disj_one (c := c).2 e)
  rw [un_one e] at this
  refine ACallV.mono this ?_
  rintro r h' ⟨h1, rfl, d, k⟩
  have e1 := disj_one.1 d
  exact ⟨h1, un_one e1, e1, k⟩
theorem ACalls.keep {f : FuncId} {args : List AV} {R : AV → AHeap → Prop} (q : ACalls P f args h R) (e : h b = none) : ACalls P f args (h.upd b c) fun r h' => ∃ h1, h' = h1.upd b c ∧ h1 b = none ∧ R r h1 :=
  ACallV.keep (fv := .fn (.func f) [] []) (by simpa using q) e |> fun q => by simpa using q

/-! ### The round -/
def putsA (t : AF) : List Nat → List AV → AF
  | p :: ps, a :: as => putsA (t.put p a) ps as
  | _, _ => t

theorem putsA_rep {g : AHeap} : ∀ (ps : List Nat) (as : List AV) (vs : List Value) (tmps : Array Value) (t : AF), RepF w g tmps t → RepL w g vs as → (∀ p ∈ ps, p < tmps.size) → ps.length = as.length →
    RepF w g (((ps.zip vs)).foldl (fun tmps (t, a) => tmps.setIfInBounds t a) tmps) (putsA t ps as) ∧ (((ps.zip vs)).foldl (fun tmps (t, a) => tmps.setIfInBounds t a) tmps).size = tmps.size
  | [], as, vs, tmps, t, F, rs, hp, hl => by
    cases as with
    | nil => exact ⟨F, rfl⟩
    | cons a as => simp at hl
  | p :: ps, as, vs, tmps, t, F, rs, hp, hl => by
    cases as with
    | nil => simp at hl
    | cons a as =>
      obtain ⟨v, vs', rfl, r1, r2⟩ := rs.uncons
      have F' := F.put (d := p) (hp p (by simp)) r1
      have := putsA_rep ps as vs' (tmps.setIfInBounds p v) (t.put p a) F' r2 (fun q hq => by simpa using hp q (by simp [hq])) (by simpa using hl)
      simpa [putsA] using this

/-- What a round leaves: it goes on, or a jump is pending. -/
def jumpOf : Exit → Option (Option Code)
  | .normal => some none
  | .ret => some (some .ret)
  | .exit id => some (some (.exit id))
  | _ => none
def recOf (r : Loop) (j : Option Code) : Loop := { r with state := if j.isNone then .ready else .done, pending := j }

theorem zip_fold (ps : Array Nat) (vs : List Value) (tmps : Array Value) : (ps.zip vs.toArray).foldl (fun tmps (t, a) => tmps.setIfInBounds t a) tmps = (ps.toList.zip vs).foldl (fun tmps (t, a) => tmps.setIfInBounds t a) tmps := by
  rw [← Array.foldl_toList]; simp [Array.toList_zip]

theorem rec_step {w w' : World} {h hf : AHeap} {l : Nat} {r r' : Loop} {t : AF} (D : Disj h ((AHeap.empty.upd l (.loop r t)).un hf)) (R : Rel w (h.un ((AHeap.empty.upd l (.loop r t)).un hf))) (hw : w' = w.putObj l (.loop r')) (ht : r'.tmps = r.tmps) (hfl : hf l = none) :
    Disj h ((AHeap.empty.upd l (.loop r' t)).un hf) ∧ Rel w' (h.un ((AHeap.empty.upd l (.loop r' t)).un hf)) ∧ Ext w (h.un ((AHeap.empty.upd l (.loop r t)).un hf)) w' (h.un ((AHeap.empty.upd l (.loop r' t)).un hf)) ∧ (∀ b, hf b ≠ none → w'.heap[b]? = w.heap[b]?) := by
  subst hw
  have hl : h l = none := by
    rcases D l with e | e
    · exact e
    · simp [AHeap.un_at] at e
  have e0 : (h.un ((AHeap.empty.upd l (.loop r t)).un hf)) l = some (.loop r t) := by rw [AHeap.un_none hl, AHeap.un_some (AHeap.upd_same)]
  have hob := R l _ e0
  have ho : w.heap[l]? = some (.loop r) := hob.1
  have hlt : l < w.heap.size := R.lt e0
  have eg : (h.un ((AHeap.empty.upd l (.loop r t)).un hf)).upd l (.loop r' t) = h.un ((AHeap.empty.upd l (.loop r' t)).un hf) := by
    funext i
    by_cases hi : i = l
    · subst hi; simp [AHeap.un_at, hl]
    · rw [AHeap.upd_ne hi]; simp [AHeap.un_at, hi]
  obtain ⟨x, R1⟩ := R.upd (c := .loop r' t) e0 (Only.putObj w l (.loop r')) (fun cs e fr hc => by rw [ho] at hc; cases hc)
    (fun x => ⟨World.putObj_heap_same hlt, fun i => by rw [ht]; exact (hob.2 i).ext x⟩)
  rw [eg] at x R1
  refine ⟨fun i => ?_, R1, x, fun b hb => World.putObj_heap_other fun e => hb (e ▸ hfl)⟩
  rcases D i with e | e
  · exact .inl e
  · by_cases hi : i = l
    · subst hi; exact .inl hl
    · refine .inr ?_
      simpa [AHeap.un_at, hi] using e

theorem ayield_of {l : Nat} {r : Loop} {args : List AV} {R : AV → AHeap → Prop} {h1 : AHeap} (hn : h1 l = none) (hr : r.state = .ready) (hN : r.tmps.size = N) (hps : ∀ p ∈ r.params.toList, p < N) (hl : r.params.size = args.length)
    (hk1 : codeOk N r.assign = true) (hk2 : codeOk N r.body = true)
    (hw : awp P (some l) N r.assign (thenA (awp P (some l) N r.body (fun e _ h2 => match jumpOf e with
      | some j => ∃ h3, Drop h2 h3 ∧ (h3 l = none → R (.bool j.isNone) (h3.upd l (.loop (recOf r j) t)))
      | none => False)) (fun _ _ _ => False)) (putsA t r.params.toList args) h1) :
    AYield P l args (h1.upd l (.loop r t)) R := by
  intro hf w vs D Rl rs
  have hfl : hf l = none := D.none_right AHeap.upd_same
  have eg : ∀ (h : AHeap) (c : Chunk), h l = none → (h.upd l c).un hf = h.un ((AHeap.empty.upd l c).un hf) := fun h c e => by
    rw [← un_one e, AHeap.un_assoc]
  have Dn : Disj h1 ((AHeap.empty.upd l (.loop r t)).un hf) := Disj.un_right (disj_one.2 hn) (fun i => by
    by_cases hi : i = l
    · subst hi; exact .inl hn
    · rcases D i with e | e
      · rw [AHeap.upd_ne hi] at e; exact .inl e
      · exact .inr e)
  have hc := Rl l (.loop r t) (AHeap.un_some AHeap.upd_same)
  obtain ⟨ho, hF⟩ := hc
  rw [eg h1 _ hn] at Rl rs hF
  have hsz : vs.toArray.size = r.params.size := by have := rs.1; simp; omega
  refine ⟨r.fn, _, r.assign, r.body, run_yield ho hsz, roundIn_of_wpIn trivial ?_⟩
  rw [zip_fold]
  obtain ⟨F1, F2⟩ := putsA_rep r.params.toList args vs r.tmps t hF rs (by rw [hN]; exact hps) (by simpa using hl)
  have G0 : Good w h1 ((AHeap.empty.upd l (.loop r t)).un hf) { tmps := (r.params.toList.zip vs).foldl (fun tmps (t, a) => tmps.setIfInBounds t a) r.tmps, defers := [] } (putsA t r.params.toList args) N w.heap.size :=
    ⟨Dn, Rl, F1, by simpa using F2.trans hN, ⟨[], rfl, List.nodup_nil, fun r hr => absurd hr (by simp)⟩, Nat.le_refl _⟩
  refine wpIn_mono (awp_sound r.assign _ _ _ hk1 hw _ _ _ _ G0) ?_
  intro e a1 w1 T
  obtain ⟨t1, h1', k, G1, s1⟩ := T
  cases e <;> first | exact k.elim | skip
  simp only [thenA_normal] at k
  have ho1 : w1.heap[l]? = some (.loop r) := (s1.fr l (by simp [AHeap.un_at])).trans ho
  obtain ⟨D2, R2, x2, f2⟩ := rec_step (w' := w1.putObj l (.loop { r with state := .busy })) (r' := { r with state := .busy }) G1.disj G1.rel rfl rfl hfl
  have s2 : Stp w1 h1' hf (w1.putObj l (.loop { r with state := .busy })) h1' → True := fun _ => trivial
  clear s2
  have G2 : Good (w1.putObj l (.loop { r with state := .busy })) h1' ((AHeap.empty.upd l (.loop { r with state := .busy } t)).un hf) a1 t1 N w.heap.size :=
    ⟨D2, R2, G1.frame.ext x2, G1.size, G1.defers.ext x2, Nat.le_trans G1.base x2.size⟩
  refine ⟨_, run_beginRound ho1 hr, wpIn_mono (awp_sound r.body _ _ _ hk2 k _ _ _ _ G2) ?_⟩
  intro e a2 w3 T
  obtain ⟨t3, h3', k3', G3', s3'⟩ := T
  have hob : ∀ (h3 : AHeap) (_ : Drop h3' h3), Good w3 h3 ((AHeap.empty.upd l (.loop { r with state := .busy } t)).un hf) a2 t3 N w.heap.size ∧ Stp (w1.putObj l (.loop { r with state := .busy })) h1' ((AHeap.empty.upd l (.loop { r with state := .busy } t)).un hf) w3 h3 :=
    fun h3 d => ⟨G3'.turn (d.sub 0) (fun _ => .inl rfl), s3'.trans ((d.sub 0).stp G3'.disj)⟩
  -- the record, as the round leaves it
  have ho3 : w3.heap[l]? = some (.loop { r with state := .busy }) := by
    rw [s3'.fr l (by simp [AHeap.un_at])]
    exact World.putObj_heap_same (Array.getElem?_eq_some_iff.1 ho1).1
  have fin : ∀ j, (∃ h3, Drop h3' h3 ∧ (h3 l = none → R (.bool j.isNone) (h3.upd l (.loop (recOf r j) t)))) → RetTo w (h1.upd l (.loop r t)) hf R (.returned (.bool j.isNone)) (w3.putObj l (.loop { { r with state := .busy } with state := if j.isNone then .ready else .done, pending := j })) := by
    rintro j ⟨h3, hd, hR⟩
    obtain ⟨G3, s3⟩ := hob h3 hd
    have h3l : h3 l = none := by
      rcases G3.disj l with e | e
      · exact e
      · simp [AHeap.un_at] at e
    obtain ⟨D4, R4, x4, f4⟩ := rec_step (w' := w3.putObj l (.loop (recOf r j))) (r' := recOf r j) G3.disj G3.rel rfl rfl hfl
    have D5 : Disj (h3.upd l (.loop (recOf r j) t)) hf := Disj.upd (fun i => by
      rcases D4 i with e | e
      · exact .inl e
      · exact .inr (AHeap.un_eq_none.1 e).2) hfl
    refine ⟨_, .bool j.isNone, h3.upd l (.loop (recOf r j) t), rfl, hR h3l, D5, by rw [eg h3 _ h3l]; exact R4, .bool _, ⟨?_, fun b hb => ?_⟩⟩
    · rw [eg h3 _ h3l, eg h1 _ hn]
      exact ((s1.ext.trans x2).trans s3.ext).trans x4
    · have hbl : (AHeap.empty.upd l (.loop r t)).un hf b ≠ none := by
        simp only [AHeap.un_at]
        by_cases hi : b = l
        · subst hi; simp
        · rw [AHeap.upd_ne hi]; exact hb
      have hbl2 : (AHeap.empty.upd l (.loop { r with state := .busy } t)).un hf b ≠ none := by
        simp only [AHeap.un_at]
        by_cases hi : b = l
        · subst hi; simp
        · rw [AHeap.upd_ne hi]; exact hb
      exact (((f4 b hb).trans (s3.fr b hbl2)).trans (f2 b hb)).trans (s1.fr b hbl)
  cases e with
  | normal => exact ⟨_, _, run_endRound none ho3, fin none k3'⟩
  | ret => exact ⟨_, _, run_endRound (some .ret) ho3, fin (some .ret) k3'⟩
  | exit id => exact ⟨_, _, run_endRound (some (.exit id)) ho3, fin (some (.exit id)) k3'⟩
  | goto l => exact k3'.elim
  | panic c => exact k3'.elim
  | outgrown => exact k3'.elim

/-- What follows a loop over a function. -/
def afterA (Q : Exit → AF → AHeap → Prop) (t : AF) (h : AHeap) : Option Code → Prop
  | none => Q .normal t h
  | some .ret => Q .ret t h
  | some (.exit id) => Q (.exit id) t h
  | _ => False

theorem awp_rangeF {g : Operand} {ps : Array Tmp} {as b : Code} {Q : Exit → AF → AHeap → Prop} {f : FuncId} {first caps : List AV} (hg : evalA t g = .fn (.func f) first caps)
    (hcall : ∀ (l : Nat) (r : Loop), h l = none → r.state = .ready → r.pending = none → r.tmps.size = N → r.params = ps → r.assign = as → r.body = b →
      ACalls P f (first ++ [.fn (.yield l) [] []] ++ caps) (h.upd l (.loop r t)) fun _ h' => ∃ h1 j, h' = h1.upd l (.loop (recOf r j) t) ∧ h1 l = none ∧ afterA Q t h1 j) : AWP P none N (.rangeFunc g ps as b) Q t h := by
  intro hf B w a G
  refine wpIn_rangeFunc fun fn _ => ?_
  let r : Loop := { state := .ready, pending := none, fn, tmps := a.tmps, params := ps, assign := as, body := b, defers := w.heap.size }
  have he := run_enterLoop_outer (P := P) (w := w) fn a.tmps ps as b
  -- the block for deferred calls
  have xa : Ext w (h.un hf) (w.alloc (.deferred (some []))) (h.un hf) := .alloc _ fun _ _ => rfl
  have Ra : Rel (w.alloc (.deferred (some []))) (h.un hf) := G.rel.step xa fun i c e => by
    have := G.rel.lt e
    refine .inl ⟨e, ?_⟩
    exact alloc_old w _ i this
  have hl0 : (w.alloc (.deferred (some []))).heap.size = w.heap.size + 1 := by simp
  obtain ⟨f1, f2⟩ := fresh_both (h := h) (hf := hf) Ra
  rw [hl0] at f1 f2
  obtain ⟨xb, Rb⟩ := Rel.alloc (w := w.alloc (.deferred (some []))) (g := h.un hf) (o := .loop r) (c := .loop r t) Ra (fun x => ⟨alloc_at _ _, fun i => (G.frame i).ext (xa.trans x)⟩)
  rw [hl0, ← AHeap.un_upd] at xb Rb
  have D1 : Disj (h.upd (w.heap.size + 1) (.loop r t)) hf := G.disj.upd f2
  have hx : Ext w (h.un hf) ((w.alloc (.deferred (some []))).alloc (.loop r)) ((h.upd (w.heap.size + 1) (.loop r t)).un hf) := xa.trans xb
  have hev : Rep ((w.alloc (.deferred (some []))).alloc (.loop r)) ((h.upd (w.heap.size + 1) (.loop r t)).un hf) (a.eval g) (evalA t g) := (G.eval g).ext hx
  obtain ⟨hc, hcalls⟩ := hcall (w.heap.size + 1) r f1 rfl rfl G.size rfl rfl rfl
  rw [hg] at hev
  obtain ⟨fi, ca, hv, r1, r2⟩ := hev.inv_fn
  have ry : RepL ((w.alloc (.deferred (some []))).alloc (.loop r)) ((h.upd (w.heap.size + 1) (.loop r t)).un hf) [.func (.yield (w.heap.size + 1)) #[] #[]] [.fn (.yield (w.heap.size + 1)) [] []] :=
    .cons (.fn (first := []) (caps := []) rfl rfl (fun i hi => absurd hi (by simp)) (fun i hi => absurd hi (by simp))) .nil
  have hvs := (r1.append ry).append r2
  refine ⟨w.heap.size + 1, _, _, { target := .fn (.func f) ca.toArray, args := fi.toArray ++ #[Value.func (.yield (w.heap.size + 1)) #[] #[]] }, (w.alloc (.deferred (some []))).alloc (.loop r), f, (fi ++ [Value.func (.yield (w.heap.size + 1)) #[] #[]] ++ ca).toArray, (w.alloc (.deferred (some []))).alloc (.loop r), he, ?_, fun _ _ => trivial, ?_, fun hx => by simp [fence, Fence.wide] at hx, ?_⟩
  · simp only [resolve, rangeCall, hv, Deferred.ofValue, Sem.run_pure]
    rw [show Array.map a.eval #[Operand.const (.func (.yield (w.heap.size + 1)) #[] #[])] = #[Value.func (.yield (w.heap.size + 1)) #[] #[]] from by simp [Act.eval]]
  · simp only [invoke]
    rw [show (fi.toArray ++ #[Value.func (.yield (w.heap.size + 1)) #[] #[]] ++ ca.toArray) = (fi ++ [Value.func (.yield (w.heap.size + 1)) #[] #[]] ++ ca).toArray from by simp]
    exact hc _ _
  · refine CallsIn.mono (hcalls hf _ _ D1 Rb hvs) ?_
    rintro en w3 ⟨v, rv, h', rfl, ⟨h1, j, rfl, h1l, hQ⟩, D3, R3, rv3, s3⟩
    have e0 : ((h1.upd (w.heap.size + 1) (.loop (recOf r j) t)).un hf) (w.heap.size + 1) = some (.loop (recOf r j) t) := AHeap.un_some AHeap.upd_same
    have ho := (R3 _ _ e0).1
    have hns : (recOf r j).state ≠ .busy := by unfold recOf; cases j <;> simp
    refine ⟨_, _, run_endLoop ho hns, ?_⟩
    -- the record is given up
    have lt1 : w.heap.size < (w.alloc (.deferred (some []))).heap.size := by rw [hl0]; omega
    have n1 : (h.un hf) w.heap.size = none := G.rel.fresh
    obtain ⟨k1, k2⟩ := xb.keep _ lt1 n1
    have lt2 := Nat.lt_of_lt_of_le lt1 xb.size
    obtain ⟨k3, k4⟩ := s3.ext.keep _ lt2 k1
    have lt3 := Nat.lt_of_lt_of_le lt2 s3.ext.size
    have sb : SubH 0 (h1.upd (w.heap.size + 1) (.loop { recOf r j with state := .exhausted } t)) h1 := fun i => by
      by_cases hi : i = w.heap.size + 1
      · subst hi; exact .inl h1l
      · exact .inr (.inl (by rw [AHeap.upd_ne hi]))
    have hF3 := (R3 _ _ e0).2
    obtain ⟨x4, R4⟩ := R3.upd (c := .loop { recOf r j with state := .exhausted } t) e0 (Only.putObj w3 (w.heap.size + 1) (.loop { recOf r j with state := .exhausted })) (fun cs e fr hc => by rw [ho] at hc; cases hc)
      (fun x => ⟨World.putObj_heap_same (R3.lt e0), fun i => (hF3 i).ext x⟩)
    rw [← AHeap.un_upd, AHeap.upd_upd] at x4 R4
    have D4 : Disj (h1.upd (w.heap.size + 1) (.loop { recOf r j with state := .exhausted } t)) hf := fun i => by
      by_cases hi : i = w.heap.size + 1
      · subst hi; exact .inr f2
      · rcases D3 i with e | e
        · exact .inl (by rw [AHeap.upd_ne hi] at e ⊢; exact e)
        · exact .inr e
    have x5 := sb.ext (w := w3.putObj (w.heap.size + 1) (.loop { recOf r j with state := .exhausted })) D4
    have D5 := sb.disj D4
    have R5 := sb.rel R4 D4
    obtain ⟨k5, k6⟩ := x4.keep _ lt3 k3
    have lt4 := Nat.lt_of_lt_of_le lt3 x4.size
    obtain ⟨k7, k8⟩ := x5.keep _ lt4 k5
    have hx5 := ((hx.trans s3.ext).trans x4).trans x5
    have S5 : Stp w h hf (w3.putObj (w.heap.size + 1) (.loop { recOf r j with state := .exhausted })) h1 := ⟨hx5, fun b hb => by
      have hb1 : b ≠ w.heap.size + 1 := fun e => hb (e ▸ f2)
      rw [World.putObj_heap_other hb1, s3.fr b hb]
      have hbl : b < w.heap.size := by
        cases hc : hf b with
        | none => exact absurd hc hb
        | some c => exact G.rel.lt (by rw [G.disj.un_comm]; exact AHeap.un_some hc)
      have e1 := alloc_old (w.alloc (.deferred (some []))) (.loop r) b (by rw [hl0]; omega)
      exact e1.trans (alloc_old w _ b hbl)⟩
    have hdef : (w3.putObj (w.heap.size + 1) (.loop { recOf r j with state := .exhausted })).heap[w.heap.size]? = some (.deferred (some [])) :=
      (k6.trans k4).trans (k2.trans (alloc_at w _))
    have G5 : Good (w3.putObj (w.heap.size + 1) (.loop { recOf r j with state := .exhausted })) h1 hf { a with defers := [{ target := .collected w.heap.size, args := #[] }] ++ a.defers } t N B := by
      refine ⟨D5, R5, G.frame.ext hx5, G.size, ?_, Nat.le_trans G.base hx5.size⟩
      obtain ⟨rs, d1, d2, d3⟩ := G.defers
      refine ⟨w.heap.size :: rs, by simp [d1], List.nodup_cons.2 ⟨fun hm => absurd (d3 _ hm).2.1 (Nat.lt_irrefl _), d2⟩, fun q hq => ?_⟩
      rcases List.mem_cons.1 hq with rfl | hq
      · exact ⟨G.base, Nat.lt_of_lt_of_le lt4 (Nat.le_refl _), k7, hdef⟩
      · obtain ⟨p1, p2, p3, p4⟩ := d3 q hq
        obtain ⟨e1, e2⟩ := hx5.keep q p2 p3
        exact ⟨p1, Nat.lt_of_lt_of_le p2 hx5.size, e1, e2.trans p4⟩
    have hj : (recOf r j).pending = j := rfl
    rw [hj]
    cases j with
    | none => exact ⟨t, h1, hQ, G5, S5⟩
    | some c =>
      cases c <;> first | exact hQ.elim | skip
      · exact wpIn_exit ⟨t, h1, hQ, G5, S5⟩
      · exact wpIn_ret ⟨t, h1, hQ, G5, S5⟩

/-! ### Iterators -/
def runIt {γ α : Type} (step : γ → α → γ) (go : γ → Bool) : γ → List α → γ
  | g, [] => g
  | g, a :: L => if go (step g a) then runIt step go (step g a) L else step g a

/-- The function hands over the items of L, in order, as long as it is told to go on; fin: there are no others. -/
def Iter (P : Program) (fv : AV) {α : Type} (enc : α → List AV) (L : List α) (fin : Bool) : Prop :=
  ∀ (γ : Type) (I : γ → AHeap → Prop) (step : γ → α → γ) (go : γ → Bool) (y : AV) (g0 : γ) (h0 : AHeap), go g0 = true → I g0 h0 → (fin = true ∨ go (runIt step go g0 L) = false) →
    (∀ i g a h, L[i]? = some a → g = (L.take i).foldl step g0 → go g = true → I g h → ACallV P y (enc a) h fun r h' => r = .bool (go (step g a)) ∧ I (step g a) h') →
    ACallV P fv [y] h0 fun _ h' => I (runIt step go g0 L) h'

theorem ACalls.funcs {f : FuncId} {first caps args : List AV} {R : AV → AHeap → Prop} (q : ACallV P (.fn (.func f) first caps) args h R) : ACalls P f (first ++ args ++ caps) h R := q

theorem awp_iter {g : Operand} {ps : Array Tmp} {as b : Code} {Q : Exit → AF → AHeap → Prop} {f : FuncId} {first caps : List AV} {α : Type} {enc : α → List AV} {L : List α} {fin : Bool}
    (hg : evalA t g = .fn (.func f) first caps) (it : Iter P (.fn (.func f) first caps) enc L fin) {γ : Type} (J : γ → AHeap → Prop) (step : γ → α → γ) (jump : γ → Option Exit) (g0 : γ) (hj0 : jump g0 = none) (h0 : J g0 h)
    (hk1 : codeOk N as = true) (hk2 : codeOk N b = true) (hps : ∀ p ∈ ps.toList, p < N) (hlen : ∀ a ∈ L, ps.size = (enc a).length)
    (hfin : fin = true ∨ (jump (runIt step (fun g => (jump g).isNone) g0 L)).isNone = false)
    (body : ∀ l i g a h, L[i]? = some a → g = (L.take i).foldl step g0 → jump g = none → J g h → awp P (some l) N as (thenA (awp P (some l) N b (fun e _ h2 => e = (jump (step g a)).getD .normal ∧ ∃ h3, Drop h2 h3 ∧ J (step g a) h3)) (fun _ _ _ => False)) (putsA t ps.toList (enc a)) h)
    (hjump : ∀ g e, jump g = some e → e = .ret ∨ ∃ id, e = .exit id)
    (after : ∀ h', J (runIt step (fun g => (jump g).isNone) g0 L) h' → Q ((jump (runIt step (fun g => (jump g).isNone) g0 L)).getD .normal) t h') : AWP P none N (.rangeFunc g ps as b) Q t h := by
  have jc : ∀ g, ∃ j, jumpOf ((jump g).getD .normal) = some j ∧ j.isNone = (jump g).isNone ∧ ∀ Q h, Q ((jump g).getD .normal) t h → afterA Q t h j := by
    intro g
    cases hj : jump g with
    | none => exact ⟨none, rfl, rfl, fun Q h q => q⟩
    | some e =>
      rcases hjump g e hj with rfl | ⟨id, rfl⟩
      · exact ⟨some .ret, rfl, rfl, fun Q h q => q⟩
      · exact ⟨some (.exit id), rfl, rfl, fun Q h q => q⟩
  refine awp_rangeF hg fun l r hl hr hp hN e1 e2 e3 => ?_
  have hp' : recOf r none = r := by
    cases r; simp only at hr hp; subst hr; subst hp; rfl
  refine ACalls.mono (ACalls.funcs (it γ (fun g h' => ∃ h1 j, h' = h1.upd l (.loop (recOf r j) t) ∧ h1 l = none ∧ J g h1 ∧ jumpOf ((jump g).getD .normal) = some j) step (fun g => (jump g).isNone) (.fn (.yield l) [] []) g0 _ (by simp [hj0]) ⟨h, none, by rw [hp'], hl, h0, by simp [hj0, jumpOf]⟩ hfin ?_)) ?_
  · rintro i g a h' ha hgi hgo ⟨h1, j, rfl, h1l, hJ, hj⟩
    have hjn : jump g = none := by simpa using hgo
    rw [hjn] at hj
    simp only [Option.getD_none, jumpOf, Option.some.injEq] at hj
    subst hj
    rw [hp', ACallV_yield]
    refine ayield_of h1l hr hN (by rw [e1]; exact hps) (by rw [e1]; exact hlen a (List.mem_of_getElem? ha)) (by rw [e2]; exact hk1) (by rw [e3]; exact hk2) ?_
    rw [e1, e2, e3]
    refine awp_mono _ _ _ _ _ (fun e t' h' q => ?_) (body l i g a h1 ha hgi hjn hJ)
    cases e <;> first | exact q | skip
    simp only [thenA_normal] at q ⊢
    refine awp_mono _ _ _ _ _ (fun e t2 h2 q => ?_) q
    obtain ⟨rfl, h3, hd, q⟩ := q
    obtain ⟨j, j1, j2, j3⟩ := jc (step g a)
    rw [j1]
    exact ⟨h3, hd, fun h2l => ⟨by rw [j2], h3, j, rfl, h2l, q, rfl⟩⟩
  · rintro r' h' ⟨h1, j, rfl, h1l, hJ, hj⟩
    obtain ⟨j', j1, j2, j3⟩ := jc (runIt step (fun g => (jump g).isNone) g0 L)
    rw [hj] at j1; cases j1
    exact ⟨h1, j, rfl, h1l, j3 _ _ (after _ hJ)⟩
end
end Go.AH
