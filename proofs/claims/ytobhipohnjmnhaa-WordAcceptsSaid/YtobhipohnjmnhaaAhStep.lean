/-
  Steps on memory: what they do to the abstract heap.
-/
import Derived.Test.YtobhipohnjmnhaaAhSound3
set_option linter.unusedSimpArgs false
set_option linter.unusedVariables false
set_option linter.unusedSectionVars false
namespace Go.AH
open Go

/-- Only block b has turned. -/
structure Only (w w' : World) (b : Nat) : Prop where
  size : w'.heap.size = w.heap.size
  other : ∀ k, k ≠ b → w'.heap[k]? = w.heap[k]?
  os : w'.os = w.os
  tape : w'.tape = w.tape
  output : w'.output = w.output

section
variable {P : Program} {w w' w'' : World} {g g' h hf : AHeap} {b : Nat} {c : Chunk}

theorem Only.refl (w : World) (b : Nat) : Only w w b := ⟨rfl, fun _ _ => rfl, rfl, rfl, rfl⟩
theorem Only.trans (x : Only w w' b) (y : Only w' w'' b) : Only w w'' b :=
  ⟨y.size.trans x.size, fun k hk => (y.other k hk).trans (x.other k hk), y.os.trans x.os, y.tape.trans x.tape, y.output.trans x.output⟩
theorem Only.setCell (w : World) (a : Addr) (v : Value) : Only w (w.setCell a v) a.block :=
  ⟨by simp [World.setCell], fun k hk => by simp [World.setCell, Array.getElem?_modify, Ne.symm hk], rfl, rfl, rfl⟩
theorem Only.putObj (w : World) (b : Nat) (o : Obj) : Only w (w.putObj b o) b :=
  ⟨by simp, fun k hk => World.putObj_heap_other hk, rfl, rfl, rfl⟩
theorem Only.drew (x : Only w w' b) : Only w w'.drew b := ⟨x.size, x.other, x.os, x.tape, x.output⟩

/-- A step under a frame hf: the frame's blocks lie as they lay. -/
structure Stp (w : World) (h hf : AHeap) (w' : World) (h' : AHeap) : Prop where
  ext : Ext w (h.un hf) w' (h'.un hf)
  fr : ∀ b, hf b ≠ none → w'.heap[b]? = w.heap[b]?

theorem Stp.refl (w : World) (h hf : AHeap) : Stp w h hf w h := ⟨.refl _ _, fun _ _ => rfl⟩
theorem Stp.trans {w1 w2 w3 : World} {h1 h2 h3 hf : AHeap} (x : Stp w1 h1 hf w2 h2) (y : Stp w2 h2 hf w3 h3) : Stp w1 h1 hf w3 h3 :=
  ⟨x.ext.trans y.ext, fun b hb => (y.fr b hb).trans (x.fr b hb)⟩
theorem Stp.only {h' : AHeap} (x : Ext w (h.un hf) w' (h'.un hf)) (o : Only w w' b) (hb : hf b = none) : Stp w h hf w' h' :=
  ⟨x, fun k hk => o.other k (fun e => hk (e ▸ hb))⟩

theorem ChunkOk.lt {g : AHeap} (k : ChunkOk w g b c) : b < w.heap.size := by
  cases c with
  | cells cs => obtain ⟨vs, e, h1, _⟩ := k; exact (Array.getElem?_eq_some_iff.1 h1).1
  | map sh es => obtain ⟨vs, e, h1, _⟩ := k; exact (Array.getElem?_eq_some_iff.1 h1).1
  | sit s p => exact (Array.getElem?_eq_some_iff.1 k).1
  | loop r t => exact (Array.getElem?_eq_some_iff.1 k.1).1

theorem Rel.lt (R : Rel w g) (e : g b = some c) : b < w.heap.size := (R b c e).lt
theorem Rel.fresh (R : Rel w g) : g w.heap.size = none := by
  cases e : g w.heap.size with
  | none => rfl
  | some c => exact absurd (R.lt e) (Nat.lt_irrefl _)

theorem ChunkOk.ext (x : Ext w g w' g') (e : w'.heap[b]? = w.heap[b]?) (k : ChunkOk w g b c) : ChunkOk w' g' b c := by
  cases c with
  | cells cs => obtain ⟨vs, ty, h1, h2, h3, h4⟩ := k; exact ⟨vs, ty, e.trans h1, h2, h3, fun i hi hj => (h4 i hi hj).ext x⟩
  | map sh es => obtain ⟨vs, cl, h1, h2, h3, h4⟩ := k; exact ⟨vs, cl, e.trans h1, h2, h3, fun i hi hj => ⟨(h4 i hi hj).1.ext x, (h4 i hi hj).2.ext x⟩⟩
  | sit s p => exact e.trans k
  | loop r t => exact ⟨e.trans k.1, fun i => (k.2 i).ext x⟩

theorem Rel.step (R : Rel w g) (x : Ext w g w' g') (hs : ∀ i c, g' i = some c → (g i = some c ∧ w'.heap[i]? = w.heap[i]?) ∨ ChunkOk w' g' i c) : Rel w' g' := by
  intro b c e
  rcases hs b c e with ⟨h1, h2⟩ | h
  · exact (R b c h1).ext x h2
  · exact h

/-- An owned block turns. -/
theorem Ext.only (o : Only w w' b) (hb : g b ≠ none) (hs : ∀ (cs : Array Value) (e : TypeId) (fr : Nat × Nat), w.heap[b]? = some (Obj.cells cs e fr) → ∃ (cs' : Array Value) (fr' : Nat × Nat), w'.heap[b]? = some (Obj.cells cs' e fr') ∧ cs'.size = cs.size)
    (hg : ∀ k, k ≠ b → g' k = g k) : Ext w g w' g' :=
  ⟨by rw [o.size]; exact Nat.le_refl _,
   fun k _ hn => by
     have hk : k ≠ b := fun e => hb (e ▸ hn)
     exact ⟨(hg k hk).trans hn, o.other k hk⟩,
   fun k cs e fr hc => by
     by_cases hk : k = b
     · subst hk; exact hs cs e fr hc
     · exact ⟨cs, fr, (o.other k hk).trans hc, rfl⟩,
   o.os, o.tape, o.output⟩

theorem Ext.alloc (o : Obj) (hg : ∀ k, k ≠ w.heap.size → g' k = g k) : Ext w g (w.alloc o) g' :=
  ⟨by simp,
   fun k hk hn => ⟨(hg k (by omega)).trans hn, by show (w.heap.push o)[k]? = _; rw [Array.getElem?_push, if_neg (by omega)]⟩,
   fun k cs e fr hc => by
     have hlt := (Array.getElem?_eq_some_iff.1 hc).1
     exact ⟨cs, fr, by show (w.heap.push o)[k]? = _; rw [Array.getElem?_push, if_neg (by omega)]; exact hc, rfl⟩,
   rfl, rfl, rfl⟩

theorem Ext.drew (x : Ext w g w' g') : Ext w g w'.drew g' := ⟨x.size, x.keep, x.shape, x.os, x.tape, x.output⟩
theorem Rel.drew (R : Rel w g) : Rel w.drew g := R.step ((Ext.refl w g).drew) (fun b c e => .inl ⟨e, rfl⟩)

theorem Rel.alloc (R : Rel w g) {o : Obj} {c : Chunk} (k : ∀ x : Ext w g (w.alloc o) (g.upd w.heap.size c), ChunkOk (w.alloc o) (g.upd w.heap.size c) w.heap.size c) :
    Ext w g (w.alloc o) (g.upd w.heap.size c) ∧ Rel (w.alloc o) (g.upd w.heap.size c) := by
  have x : Ext w g (w.alloc o) (g.upd w.heap.size c)   := .alloc o (fun k hk => AHeap.upd_ne hk)
  refine ⟨x, R.step x fun b' c' e => ?_⟩
  by_cases hb : b' = w.heap.size
  · subst hb
    rw [AHeap.upd_same] at e; cases e
    exact .inr (k x)
  · rw [AHeap.upd_ne hb] at e
    have := R.lt e
    refine .inl ⟨e, ?_⟩
    show (w.heap.push o)[b']? = _
    rw [Array.getElem?_push, if_neg hb]

theorem Rel.upd (R : Rel w g) {c0 c : Chunk} (e0 : g b = some c0) (o : Only w w' b) (hs : ∀ (cs : Array Value) (e : TypeId) (fr : Nat × Nat), w.heap[b]? = some (Obj.cells cs e fr) → ∃ (cs' : Array Value) (fr' : Nat × Nat), w'.heap[b]? = some (Obj.cells cs' e fr') ∧ cs'.size = cs.size)
    (k : ∀ x : Ext w g w' (g.upd b c), ChunkOk w' (g.upd b c) b c) : Ext w g w' (g.upd b c) ∧ Rel w' (g.upd b c) := by
  have x : Ext w g w' (g.upd b c) := .only o (by rw [e0]; simp) hs (fun k hk => AHeap.upd_ne hk)
  refine ⟨x, R.step x fun b' c' e => ?_⟩
  by_cases hb : b' = b
  · subst hb; rw [AHeap.upd_same] at e; cases e; exact .inr (k x)
  · rw [AHeap.upd_ne hb] at e; exact .inl ⟨e, o.other b' hb⟩

theorem cells_of_list {e : TypeId} {vs : Array Value} {cs : List AV} (h1 : w.heap[b]? = some (.cells vs e (0, 0))) (r : RepL w g vs.toList cs) (ho : ∀ x ∈ cs, x.one = true) : ChunkOk w g b (.cells cs) :=
  ⟨vs, e, h1, by have := r.1; simp at this; omega, ho, fun i hi hj => by have := r.2 i (by simpa using hj) hi; simpa using this⟩

theorem alloc_at (w : World) (o : Obj) : (w.alloc o).heap[w.heap.size]? = some o := World.alloc_heap_new w o

/-- A new row of cells. -/
theorem new_cells (R : Rel w g) {e : TypeId} {vs : Array Value} {cs : List AV} (r : RepL w g (vs.toList.take cs.length) cs) (ho : ∀ x ∈ cs, x.one = true) :
    Ext w g (w.alloc (.cells vs e)) (g.upd w.heap.size (.cells cs)) ∧ Rel (w.alloc (.cells vs e)) (g.upd w.heap.size (.cells cs)) := by
  refine R.alloc fun x => ⟨vs, e, alloc_at w _, ?_, ho, fun i hi hj => ?_⟩
  · have := r.1; simp at this; omega
  · have h1 : i < (vs.toList.take cs.length).length := by have := r.1; omega
    have := (r.2 i h1 hi).ext x
    simpa using this

theorem setCell_at {cs : Array Value} {e : TypeId} {fr : Nat × Nat} (h1 : w.heap[b]? = some (.cells cs e fr)) (o : Nat) (v : Value) :
    (w.setCell ⟨b, o, none⟩ v).heap[b]? = some (.cells (cs.setIfInBounds o v) e fr) := by
  simp [World.setCell, Array.getElem?_modify, h1]

theorem run_storeCells : ∀ (vs : List Value) (i : Nat) (w : World) (o : Nat) (cs : Array Value) (e : TypeId), w.heap[b]? = some (.cells cs e (0, 0)) → o + i + vs.length ≤ cs.size → (∀ v ∈ vs, v.oneCell' = true) →
    ∃ w' cs', (storeCells ⟨b, o, none⟩ vs i).run P w = .ok () w' ∧ Only w w' b ∧ w'.heap[b]? = some (.cells cs' e (0, 0)) ∧ cs'.toList = cs.toList.take (o + i) ++ vs ++ cs.toList.drop (o + i + vs.length)
  | [], i, w, o, cs, e, h1, h2, h3 => ⟨w, cs, rfl, .refl w b, h1, by simp⟩
  | v :: vs, i, w, o, cs, e, h1, h2, h3 => by
    simp only [List.length_cons] at h2
    have hc : w.cell? ⟨b, o + i, none⟩ = some (cs[o + i]'(by omega)) := by simp [World.cell?, h1, show o + i < cs.size from by omega]
    have hfz : w.frozen? ⟨b, o + i, none⟩ = false := by simp [World.frozen?, h1]
    have hst : (store ((⟨b, o, none⟩ : Addr).add i) v).run P w = .ok () (w.setCell ⟨b, o + i, none⟩ v) := by
      rw [add_none, run_store P w _ v .plain (h3 v (by simp)), hc, hfz]; rfl
    obtain ⟨w', cs', e1, e2, e3, e4⟩ := run_storeCells vs (i + 1) (w.setCell ⟨b, o + i, none⟩ v) o (cs.setIfInBounds (o + i) v) e (setCell_at h1 _ _) (by simp; omega) (fun x hx => h3 x (by simp [hx]))
    refine ⟨w', cs', ?_, (Only.setCell w ⟨b, o + i, none⟩ v).trans e2, e3, ?_⟩
    · rw [storeCells, Sem.run_bind]
      rw [hst]; exact e1
    · rw [e4]
      have hlt : o + i < cs.toList.length := by simp; omega
      simp only [Array.toList_setIfInBounds, List.length_cons]
      rw [show o + (i + 1) = o + i + 1 from by omega, show o + i + (vs.length + 1) = o + i + 1 + vs.length from by omega]
      rw [List.drop_set_of_lt (by omega), List.set_eq_take_append_cons_drop, if_pos hlt, List.take_append]
      have hlen : (cs.toList.take (o + i)).length = o + i := by simp; omega
      rw [hlen, show o + i + 1 - (o + i) = 1 from by omega, List.take_of_length_le (by omega)]
      simp [List.append_assoc]

theorem RepL.ones {vs : List Value} {as : List AV} (r : RepL w g vs as) (ho : ∀ x ∈ as, x.one = true) : ∀ v ∈ vs, v.oneCell' = true := by
  intro v hv
  obtain ⟨i, hi, rfl⟩ := List.mem_iff_getElem.1 hv
  have hj : i < as.length := by have := r.1; omega
  exact oneCell_of (r.2 i hi hj) (ho _ (List.getElem_mem hj))

theorem RepL.get? {vs : List Value} {as : List AV} (r : RepL w g vs as) {i : Nat} {a : AV} (e : as[i]? = some a) : ∃ v, vs[i]? = some v ∧ Rep w g v a := by
  obtain ⟨hi, rfl⟩ := List.getElem?_eq_some_iff.1 e
  have h2 : i < vs.length := by have := r.1; omega
  exact ⟨vs[i], by simp [h2], r.2 i h2 hi⟩

/-- A store into an owned row. -/
theorem store_cells (R : Rel w g) {cs : List AV} (e0 : g b = some (.cells cs)) {off : Nat} {vs : List Value} {as : List AV} (r : RepL w g vs as) (ho : ∀ x ∈ as, x.one = true) (hle : off + as.length ≤ cs.length) :
    ∃ w', (storeCells ⟨b, off, none⟩ vs).run P w = .ok () w' ∧ Ext w g w' (g.upd b (.cells (splice cs off as))) ∧ Rel w' (g.upd b (.cells (splice cs off as))) ∧ Only w w' b := by
  obtain ⟨us, ty, h1, h2, h3, h4⟩ := R b _ e0
  have hl := r.1
  obtain ⟨w', us', e1, e2, e3, e4⟩ := run_storeCells (P := P) vs 0 w off us ty h1 (by omega) (r.ones ho)
  have hsz : us'.size = us.size := by
    have := congrArg List.length e4
    simp at this
    omega
  obtain ⟨x, R'⟩ := R.upd (c := .cells (splice cs off as)) e0 e2 (fun cs0 e0' fr0 hc => by rw [h1] at hc; cases hc; exact ⟨us', (0, 0), e3, hsz⟩) (fun x => by
    refine ⟨us', ty, e3, ?_, ?_, ?_⟩
    · simp only [splice, List.length_append, List.length_take, List.length_drop]; omega
    · intro y hy
      simp only [splice, List.mem_append] at hy
      rcases hy with (hy | hy) | hy
      · exact h3 y (List.mem_of_mem_take hy)
      · exact ho y hy
      · exact h3 y (List.mem_of_mem_drop hy)
    · have r0 : RepL w g (us.toList.take cs.length) cs := ⟨by simp; omega, fun i hi hj => by simpa using h4 i hj (by simp at hi; omega)⟩
      have r1 : RepL w g ((us.toList.take cs.length).take off ++ vs ++ (us.toList.take cs.length).drop (off + as.length)) (splice cs off as) := ((r0.take off).append r).append (r0.drop _)
      have e5 : us'.toList.take cs.length = (us.toList.take cs.length).take off ++ vs ++ (us.toList.take cs.length).drop (off + as.length) := by
        rw [e4, Nat.add_zero, List.take_append, List.take_append, List.drop_take, List.take_take, List.take_take]
        have q1 : (us.toList.take off).length = off := by simp; omega
        rw [List.length_append, q1, hl]
        rw [List.take_of_length_le (l := vs) (by omega)]
        rw [show min cs.length off = off from by omega, show min off cs.length = off from by omega]
      rw [← e5] at r1
      intro i hi hj
      have h6 : i < (us'.toList.take cs.length).length := by have := r1.1; omega
      have := (r1.2 i h6 hi).ext x
      simpa using this)
  exact ⟨w', e1, x, R', e2⟩
end
end Go.AH
