/-
  Operations that turn memory: what they ask and what they leave, abstractly; their soundness.
-/
import Derived.Test.YtobhipohnjmnhaaAhKeys
set_option linter.unusedSimpArgs false
set_option linter.unusedVariables false
set_option linter.unusedSectionVars false
namespace Go.AH
open Go

def AF.putO (t : AF) (d : Option Nat) (v : AV) : AF := match d with | some d => t.put d v | none => t

def zcells (z : List AV) (k : Nat) : List AV := (List.range (k * z.length)).map fun i => z.getD (i % z.length) .undef
theorem zcells_one (x : AV) (k : Nat) : zcells [x] k = List.replicate k x := by
  unfold zcells
  simp only [List.length_singleton, Nat.mul_one, Nat.mod_one]
  induction k with
  | zero => rfl
  | succ k ih => rw [List.range_succ, List.map_append, ih, List.replicate_succ']; rfl

/-- The elements that an append or a copy reads. -/
def appXs (h : AHeap) (es : Nat) : AV → Option (Nat × List AV)
  | .nilsl => some (0, [])
  | .sl n cells => if cells.length = n * es then some (n, cells) else none
  | .osl b off n es' =>
    match h b with
    | some (.cells cs) => if es' = es ∧ n * es ≤ (cs.drop off).length then some (n, (cs.drop off).take (n * es)) else none
    | _ => none
  | .str s => if es = 1 then some (s.length, s.map fun b => .int .u8 b.toNat) else none
  | _ => none

def zeroV (P : Program) (t : TypeId) : Option AV :=
  match (P.info? t).bind (·.zero) with
  | some z => match cval z with
    | .undef => none
    | a => some a
  | none => none

def rowT (P : Program) (t : TypeId) : Bool := match P.underlying t with | some (.slice _) => true | some .string => true | _ => false
/-- A slice type's element: its type, cells, bytes, zero. -/
def elemT (P : Program) (t : TypeId) : Option (TypeId × Nat × Nat × List AV) :=
  match P.underlying t with
  | some (.slice e) => match szT P e, bytesT P e, zeroT P e with
    | some es, some by_, some z => if z.length = es ∧ by_ ≤ 65536 then some (e, es, by_, z) else none
    | _, _, _ => none
  | _ => none

def minA (mx : Bool) : AV → List AV → Option AV
  | a, [] => some a
  | .int k x, .int _ y :: rest => minA mx (.int k (if (if mx then x < y else y < x) then y else x)) rest
  | _, _ => none

noncomputable def effStep (P : Program) (t : AF) (h : AHeap) (op : Op) (K : AV → AHeap → Prop) : Prop :=
  match op with
  | .alloc e => match zeroT P e with
    | some z => ∀ b, h b = none → K (.ptr b 0) (h.upd b (.cells z))
    | none => False
  | .box _ x => (evalA t x).fit = true ∧ ∀ b, h b = none → K (.ptr b 0) (h.upd b (.cells (evalA t x).cells))
  | .buildSlice ty len parts => match elemT P ty with
    | some (_, es, _, z) => match fillA (fun i => some (i * es, es)) (zcells z len) (parts.toList.map fun p => (p.1, evalA t p.2)) with
      | some cells => len ≤ 65536 ∧ es ≤ 128 ∧ ∀ b, h b = none → K (.osl b 0 len es) (h.upd b (.cells cells))
      | none => False
    | none => False
  | .store ty a x => match evalA t a with
    | .ptr b off => match h b with
      | some (.cells cs) => (evalA t x).fit = true ∧ szT P ty = some (evalA t x).cells.length ∧ off + (evalA t x).cells.length ≤ cs.length ∧ K .undef (h.upd b (.cells (splice cs off (evalA t x).cells)))
      | _ => False
    | _ => False
  | .makeSlice ty l c => match elemT P ty with
    | some (_, es, _, z) => match evalA t l, evalA t c with
      | .int _ l, .int _ c => 0 ≤ l ∧ l ≤ c ∧ c < 2 ^ 30 ∧ ∀ b, h b = none → K (.osl b 0 l.toNat es) (h.upd b (.cells (zcells z l.toNat)))
      | _, _ => False
    | none => False
  | .makeMap ty none => match P.underlying ty with
    | some (.map kt _) => match shapeT P kt with
      | some sh => ∀ b, h b = none → K (.map b) (h.upd b (.map sh []))
      | none => False
    | _ => False
  | .mapUpdate ty m k x => match P.underlying ty with
    | some (.map kt _) => match evalA t m with
      | .map b => match h b with
        | some (.map sh es) => shapeT P kt = some sh ∧ sh.ok (evalA t k) = true ∧ K .undef (h.upd b (.map sh (mapSet es (evalA t k) (evalA t x))))
        | _ => False
      | _ => False
    | _ => False
  | .insert ty m k x => match P.underlying ty with
    | some (.map kt _) => match evalA t m with
      | .map b => match h b with
        | some (.map sh es) => shapeT P kt = some sh ∧ sh.ok (evalA t k) = true ∧ K .undef (h.upd b (.map sh (mapSet es (evalA t k) (evalA t x))))
        | _ => False
      | _ => False
    | _ => False
  | .lookup ty m k ok => match P.underlying ty with
    | some (.map kt et) => match zeroV P et, evalA t m with
      | some z, .map b => match h b with
        | some (.map sh es) => shapeT P kt = some sh ∧ sh.ok (evalA t k) = true ∧
          K (if ok then .tup [(mapGet es (evalA t k)).getD z, .bool (mapGet es (evalA t k)).isSome] else (mapGet es (evalA t k)).getD z) h
        | _ => False
      | _, _ => False
    | _ => False
  | .range ty x => match P.underlying ty, evalA t x with
    | some .string, .str s => ∀ b, h b = none → K (.ptr b 0) (h.upd b (.sit s 0))
    | _, _ => False
  | .next it true => match evalA t it with
    | .ptr b 0 => match h b with
      | some (.sit s pos) =>
        (pos < s.length → K (.tup [.bool true, .int .i64 pos, .int .i32 (Utf8.decode ⟨s.toArray⟩ pos).1]) (h.upd b (.sit s (pos + (Utf8.decode ⟨s.toArray⟩ pos).2)))) ∧
        (¬ pos < s.length → K (.tup [.bool false]) h)
      | _ => False
    | _ => False
  | .call { callee := .builtin .append, args, argTypes } => match args.toList, argTypes.toList with
    | [s, x], [ts, tx] => match elemT P ts with
      | some (_, es, _, _) => rowT P tx = true ∧ match appXs h es (evalA t x) with
        | some (k, xs) => match evalA t s with
          | .nilsl => (k = 0 → K .nilsl h) ∧ (k ≠ 0 → k < 2 ^ 30 ∧ ∀ b, h b = none → K (.osl b 0 k es) (h.upd b (.cells xs)))
          | .osl b 0 n es' => es' = es ∧ n + k < 2 ^ 30 ∧ match h b with
            | some (.cells cs) => cs.length = n * es ∧ ∀ b', (h.del b) b' = none → K (.osl b' 0 (n + k) es) ((h.del b).upd b' (.cells (cs ++ xs)))
            | _ => False
          | _ => False
        | none => False
      | none => False
    | _, _ => False
  | .call { callee := .builtin .copy, args, argTypes } => match args.toList, argTypes.toList with
    | [d, x], [td, _] => match elemT P td with
      | some (_, es, _, _) => match appXs h es (evalA t x), evalA t d with
        | some (k, xs), .osl b off n es' => es' = es ∧ match h b with
          | some (.cells cs) => off + n * es ≤ cs.length ∧ K (.int .i64 (min k n)) (h.upd b (.cells (splice cs off (xs.take (min k n * es)))))
          | _ => False
        | _, _ => False
      | none => False
    | _, _ => False
  | .call { callee := .builtin .min, args, .. } => match args.toList with
    | x :: rest => match minA false (evalA t x) (rest.map (evalA t)) with
      | some r => K r h
      | none => False
    | [] => False
  | .call { callee := .builtin .max, args, .. } => match args.toList with
    | x :: rest => match minA true (evalA t x) (rest.map (evalA t)) with
      | some r => K r h
      | none => False
    | [] => False
  | op => onSome (pureA P t h op) fun v => K v h

section
variable {P : Program} {w : World} {h hf : AHeap} {t : AF} {ρ : Operand → Value} {o : Oper}

/-- What is shown of an operation. -/
def EffOut (P : Program) (w : World) (h hf : AHeap) (ρ : Operand → Value) (o : Oper) (K : AV → AHeap → Prop) : Prop :=
  ∃ v w' r h', ((execOp ρ o).run P w = .ok (.value v) w' ∨ ((execOp ρ o).run P w = .ok .skip w' ∧ v = Go.undef)) ∧ K r h' ∧ Rep w' (h'.un hf) v r ∧ Disj h' hf ∧ Rel w' (h'.un hf) ∧
    Stp w h hf w' h'

theorem eff_pure (D : Disj h hf) (R : Rel w (h.un hf)) (hρ : RepO w (h.un hf) ρ t) {K : AV → AHeap → Prop} {v : AV} (e : pureA P t h o.op = some v) (k : K v h) : EffOut P w h hf ρ o K := by
  obtain ⟨x, h1, h2⟩ := pureA_sound R (fun b c hb => AHeap.un_some hb) hρ e
  exact ⟨x, w, v, h, .inl h1, k, h2, D, R, .refl _ _ _⟩

/-- A fresh block for h. -/
theorem fresh_both (R : Rel w (h.un hf)) : h w.heap.size = none ∧ hf w.heap.size = none := AHeap.un_eq_none.1 R.fresh

theorem eff_new (D : Disj h hf) (R : Rel w (h.un hf)) {K : AV → AHeap → Prop} {v : Value} {r : AV} {w1 : World} {c : Chunk} (hrun : (execOp ρ o).run P w = .ok (.value v) w1)
    (x : Ext w (h.un hf) w1 ((h.un hf).upd w.heap.size c)) (R1 : Rel w1 ((h.un hf).upd w.heap.size c)) (k : K r (h.upd w.heap.size c)) (rv : Rep w1 ((h.un hf).upd w.heap.size c) v r) (hw : ∀ i, i < w.heap.size → w1.heap[i]? = w.heap[i]?) : EffOut P w h hf ρ o K := by
  refine ⟨v, w1, r, h.upd w.heap.size c, .inl hrun, k, ?_, D.upd (fresh_both R).2, ?_, ?_⟩
  · rw [AHeap.un_upd]; exact rv
  · rw [AHeap.un_upd]; exact R1
  · refine ⟨by rw [AHeap.un_upd]; exact x, fun b hb => hw b ?_⟩
    cases hc : hf b with
    | none => exact absurd hc hb
    | some c => exact R.lt (c := c) (by rw [D.un_comm]; exact AHeap.un_some hc)

theorem alloc_old (w : World) (o : Obj) : ∀ i, i < w.heap.size → (w.alloc o).heap[i]? = w.heap[i]? := fun i hi => by
  show (w.heap.push o)[i]? = _
  rw [Array.getElem?_push, if_neg (by omega)]

theorem eff_alloc (D : Disj h hf) (R : Rel w (h.un hf)) {K : AV → AHeap → Prop} {e : TypeId} (ho : o.op = .alloc e) {z : List AV} (hz : zeroT P e = some z) (k : ∀ b, h b = none → K (.ptr b 0) (h.upd b (.cells z))) : EffOut P w h hf ρ o K := by
  obtain ⟨zv, h1, h2, h3⟩ := zeroT_sound (P := P) (w := w) (g := h.un hf) hz
  have hl := h2.1
  obtain ⟨x, R1⟩ := new_cells (w := w) (g := h.un hf) R (e := e) (vs := zv.cells) (cs := z) (by rw [List.take_of_length_le (by omega)]; exact h2) h3
  refine eff_new D R (v := .pointer (some ⟨w.heap.size, 0, none⟩)) ?_ x R1 (k _ (fresh_both R).1) (.ptr _ _) (alloc_old w _)
  simp [execOp, ho, Instr.alloc, h1, newVar, newRow]

theorem eff_box (D : Disj h hf) (R : Rel w (h.un hf)) (hρ : RepO w (h.un hf) ρ t) {K : AV → AHeap → Prop} {e : TypeId} {x : Operand} (ho : o.op = .box e x) (hfit : (evalA t x).fit = true)
    (k : ∀ b, h b = none → K (.ptr b 0) (h.upd b (.cells (evalA t x).cells))) : EffOut P w h hf ρ o K := by
  obtain ⟨h2, h3⟩ := (hρ x).cells hfit
  have hl := h2.1
  obtain ⟨xx, R1⟩ := new_cells (w := w) (g := h.un hf) R (e := e) (vs := (ρ x).cells) (cs := (evalA t x).cells) (by rw [List.take_of_length_le (by omega)]; exact h2) h3
  refine eff_new D R (v := .pointer (some ⟨w.heap.size, 0, none⟩)) ?_ xx R1 (k _ (fresh_both R).1) (.ptr _ _) (alloc_old w _)
  simp [execOp, ho, Instr.box, newVar, newRow]

theorem elemT_spec {ty e : TypeId} {es by_ : Nat} {z : List AV} (he : elemT P ty = some (e, es, by_, z)) :
    P.underlying ty = some (.slice e) ∧ szT P e = some es ∧ bytesT P e = some by_ ∧ zeroT P e = some z ∧ z.length = es ∧ by_ ≤ 65536 := by
  unfold elemT at he
  split at he
  · next e' hu =>
    split at he
    · next a b c h1 h2 h3 =>
      split at he
      · next hc => cases he; exact ⟨hu, h1, h2, h3, hc.1, hc.2⟩
      · cases he
    · cases he
  · cases he

theorem zrep {g : AHeap} {z : List AV} {zv : Array Value} (r : RepL w g zv.toList z) (n : Nat) (hz : n ≠ 0 → z.length ≠ 0) :
    RepL w g ((Array.range n).map (fun i => zv[i % zv.size]!)).toList ((List.range n).map fun i => z.getD (i % z.length) .undef) := by
  have hl : zv.size = z.length := by have := r.1; simpa using this
  refine ⟨by simp, fun i hi hj => ?_⟩
  simp only [Array.length_toList, Array.size_map, Array.size_range] at hi
  have hz' := hz (by omega)
  have hm : i % z.length < z.length := Nat.mod_lt _ (by omega)
  have hm' : i % zv.size < zv.size := by rw [hl]; exact hm
  have := r.2 (i % z.length) (by simp; omega) hm
  simp only [Array.toList_map, Array.toList_range, List.getElem_map, List.getElem_range]
  rw [getElem!_pos zv (i % zv.size) hm']
  simp only [List.getD_eq_getElem?_getD, List.getElem?_eq_getElem hm, Option.getD_some]
  simpa [hl] using this

theorem ones_range {z : List AV} (ho : ∀ x ∈ z, x.one = true) (n : Nat) (hz : n ≠ 0 → z.length ≠ 0) : ∀ x ∈ (List.range n).map (fun i => z.getD (i % z.length) AV.undef), x.one = true := by
  intro x hx
  obtain ⟨i, hi, rfl⟩ := List.mem_map.1 hx
  have hi' : i < n := by simpa using hi
  have hm : i % z.length < z.length := Nat.mod_lt _ (by have := hz (by omega); omega)
  rw [List.getD_eq_getElem?_getD, List.getElem?_eq_getElem hm, Option.getD_some]
  exact ho _ (List.getElem_mem hm)

theorem eff_buildSlice (D : Disj h hf) (R : Rel w (h.un hf)) (hρ : RepO w (h.un hf) ρ t) {K : AV → AHeap → Prop} {ty : TypeId} {len : Nat} {parts : Array (Nat × Operand)} (ho : o.op = .buildSlice ty len parts)
    {e : TypeId} {es by_ : Nat} {z : List AV} (he : elemT P ty = some (e, es, by_, z)) {cells : List AV} (hfl : fillA (fun i => some (i * es, es)) (zcells z len) (parts.toList.map fun p => (p.1, evalA t p.2)) = some cells)
    (hlen : len ≤ 65536) (hes : es ≤ 128) (k : ∀ b, h b = none → K (.osl b 0 len es) (h.upd b (.cells cells))) : EffOut P w h hf ρ o K := by
  obtain ⟨hu, hs, hb, hz, hzl, _⟩ := elemT_spec he
  obtain ⟨zv, h1, h2, h3⟩ := zeroT_sound (P := P) (w := w) (g := h.un hf) hz
  have hzs : zv.cells.size = es := by have := h2.1; simp at this; omega
  have hne : len * es ≠ 0 → z.length ≠ 0 := by intro h0 h1; rw [hzl] at h1; simp [h1] at h0
  have r0 := zrep h2 (len * es) hne
  have o0 := ones_range h3 (len * es) hne
  obtain ⟨cs, f1, f2, f3⟩ := fillA_sound (w := w) (g := h.un hf) (pl := fun i => some (i * es, es)) (pl' := fun i => some (i * es, es)) (fun _ _ h => h) _ _ _ ((Array.range (len * es)).map (fun i => zv.cells[i % zv.cells.size]!)) cells (hρ.parts parts)
    (by simpa [zcells, hzl] using r0) (by simpa [zcells, hzl] using o0) hfl
  have hcs : cs.size = cells.length := by have := f2.1; simpa using this
  have hbig : ¬ (len * es > 2 ^ 24) := by
    have : len * es ≤ 65536 * 128 := Nat.mul_le_mul hlen hes
    omega
  have flen : ∀ (as : List (Nat × AV)) (z r : List AV), fillA (fun i => some (i * es, es)) z as = some r → r.length = z.length := by
    intro as
    induction as with
    | nil => intro z r e; simp only [fillA, Option.some.injEq] at e; rw [e]
    | cons p as ih =>
      intro z r e
      simp only [fillA] at e
      split at e
      · next hc => rw [ih _ _ e]; simp only [splice, List.length_append, List.length_take, List.length_drop]; omega
      · cases e
  have hcl : cells.length = len * es := by rw [flen _ _ _ hfl]; simp [zcells, hzl]
  obtain ⟨x, R1⟩ := new_cells (w := w) (g := h.un hf) R (e := e) (vs := cs) (cs := cells) (by rw [List.take_of_length_le (by simp; omega)]; exact f2) f3
  refine eff_new D R (v := .slice (some ⟨w.heap.size, 0, none⟩) len len) ?_ x R1 (k _ (fresh_both R).1) (.osl (Nat.le_refl _) ⟨cs, e, (0, 0), alloc_at w _, by omega⟩) (alloc_old w _)
  simp only [Array.toList_map] at f1
  simp only [execOp, ho, Instr.buildSlice, Sem.run_bind, run_underlying' hu, Result.andThen, run_sizeOf hs]
  rw [if_neg hbig]
  by_cases h0 : len * es = 0
  · have e1 : (Array.range (len * es)).map (fun i => zv.cells[i % zv.cells.size]!) = #[] := by rw [h0]; simp
    have e2 : ∀ f : Nat → Value, (Array.range 0).map f = #[] := fun f => by simp
    rw [e1] at f1
    simp [h0, e2, f1, newRow]
  · rw [if_neg h0]
    simp only [Sem.run_bind, h1, Sem.run_pure, Result.andThen, Array.toList_map, f1]
    simp [newRow]

theorem eff_store (D : Disj h hf) (R : Rel w (h.un hf)) (hρ : RepO w (h.un hf) ρ t) {K : AV → AHeap → Prop} {ty : TypeId} {a x : Operand} (ho : o.op = .store ty a x) {b off : Nat} (ha : evalA t a = .ptr b off) {cs : List AV} (hb : h b = some (.cells cs))
    (hfit : (evalA t x).fit = true) (hs : szT P ty = some (evalA t x).cells.length) (hle : off + (evalA t x).cells.length ≤ cs.length) (k : K .undef (h.upd b (.cells (splice cs off (evalA t x).cells)))) : EffOut P w h hf ρ o K := by
  obtain ⟨h2, h3⟩ := (hρ x).cells hfit
  have hp := (ha ▸ hρ a : Rep w (h.un hf) (ρ a) (.ptr b off)).inv_ptr
  obtain ⟨w', h4, h5, h6, h7⟩ := store_cells (P := P) R (AHeap.un_some hb) (off := off) h2 h3 hle
  have hsz : (ρ x).cells.size = (evalA t x).cells.length := by have := h2.1; simpa using this
  refine ⟨Go.undef, w', .undef, h.upd b (.cells (splice cs off (evalA t x).cells)), .inr ⟨?_, rfl⟩, k, .undef _, D.upd (D.none_right hb), ?_, ?_⟩
  · simp only [execOp, ho, Instr.storeAt, Sem.run_bind, hp, Instr.sureAddr, Sem.run_pure, Result.andThen, storeVar, run_sizeOf hs]
    rw [if_neg (by simp [hsz])]
    simp [h4]
  · rw [AHeap.un_upd]; exact h6
  · exact .only (by rw [AHeap.un_upd]; exact h5) h7 (D.none_right hb)

theorem eff_makeSlice (D : Disj h hf) (R : Rel w (h.un hf)) (hρ : RepO w (h.un hf) ρ t) {K : AV → AHeap → Prop} {ty : TypeId} {lo co : Operand} (ho : o.op = .makeSlice ty lo co) {e : TypeId} {es by_ : Nat} {z : List AV} (he : elemT P ty = some (e, es, by_, z))
    {kl kc : IntKind} {l c : Int} (hl : evalA t lo = .int kl l) (hc : evalA t co = .int kc c) (h0 : 0 ≤ l) (hlc : l ≤ c) (hcs : c < 2 ^ 30) (k : ∀ b, h b = none → K (.osl b 0 l.toNat es) (h.upd b (.cells (zcells z l.toNat)))) : EffOut P w h hf ρ o K := by
  obtain ⟨hu, hs, hb, hz, hzl, hby⟩ := elemT_spec he
  obtain ⟨zv, h1, h2, h3⟩ := zeroT_sound (P := P) (w := w) (g := h.un hf) hz
  have hzs : zv.cells.size = es := by have := h2.1; simp at this; omega
  have hne : ∀ n, n * es ≠ 0 → z.length ≠ 0 := by intro n h0 h1; rw [hzl] at h1; simp [h1] at h0
  have r0 := zrep h2 (c.toNat * es) (hne _)
  have hvl := (hl ▸ hρ lo : Rep w (h.un hf) (ρ lo) (.int kl l)).inv_int
  have hvc := (hc ▸ hρ co : Rep w (h.un hf) (ρ co) (.int kc c)).inv_int
  have hwl : IntKind.i64.wrap l = l := by simp [IntKind.wrap, IntKind.bits, IntKind.signed]; omega
  have hwc : IntKind.i64.wrap c = c := by simp [IntKind.wrap, IntKind.bits, IntKind.signed]; omega
  cases hi : P.info? e with
  | none => simp [szT, hi] at hs
  | some i =>
    have hby' : i.bytes = by_ := by simpa [bytesT, hi] using hb
    have hmul : (i.bytes : Int) * c ≤ 65536 * 2 ^ 30 := by
      rw [hby']
      calc (by_ : Int) * c ≤ 65536 * c := Int.mul_le_mul_of_nonneg_right (by omega) (by omega)
        _ ≤ 65536 * 2 ^ 30 := Int.mul_le_mul_of_nonneg_left (by omega) (by omega)
    have hle : l.toNat * es ≤ c.toNat * es := Nat.mul_le_mul_right _ (by omega)
    obtain ⟨x, R1⟩ := new_cells (w := w) (g := h.un hf) R (e := e) (vs := (Array.range (c.toNat * es)).map (fun i => zv.cells[i % zv.cells.size]!)) (cs := zcells z l.toNat) (by
        have q := zrep h2 (l.toNat * es) (hne _)
        have e1 : (((Array.range (c.toNat * es)).map (fun i => zv.cells[i % zv.cells.size]!)).toList.take (zcells z l.toNat).length) = ((Array.range (l.toNat * es)).map (fun i => zv.cells[i % zv.cells.size]!)).toList := by
          simp only [zcells, hzl, List.length_map, List.length_range, Array.toList_map, Array.toList_range, ← List.map_take, List.take_range]
          rw [show min (l.toNat * es) (c.toNat * es) = l.toNat * es from by omega]
        rw [e1]; simpa [zcells, hzl] using q) (by simpa [zcells, hzl] using ones_range h3 (l.toNat * es) (hne _))
    refine eff_new D R (v := .slice (some ⟨w.heap.size, 0, none⟩) l.toNat c.toNat) ?_ x R1 (k _ (fresh_both R).1) (.osl (by omega) ⟨_, e, (0, 0), alloc_at w _, by simp⟩) (alloc_old w _)
    have hti : (typeInfo e).run P w = .ok i w := by simp [typeInfo, hi]
    have htest : ((decide (c < 0) || decide ((i.bytes : Int) * c > 2 ^ 48)) || decide (l < 0) || decide (l > c)) = false := by
      simp only [Bool.or_eq_false_iff, decide_eq_false_iff_not]
      exact ⟨⟨⟨by omega, by omega⟩, by omega⟩, by omega⟩
    simp only [execOp, ho, Instr.makeSlice, Sem.run_bind, run_underlying' hu, Result.andThen, hvl, hvc, asInt, asIntOf, Sem.run_pure, hti, hwl, hwc, htest, Bool.false_eq_true, if_false, run_askRoom, run_sizeOf hs]
    by_cases h0 : c.toNat * es = 0
    · have e2 : ∀ f : Nat → Value, (Array.range 0).map f = #[] := fun f => by simp
      simp [h0, e2, newRow]
    · rw [if_neg h0]
      simp [h1, newRow]

theorem eff_makeMap (D : Disj h hf) (R : Rel w (h.un hf)) {K : AV → AHeap → Prop} {ty : TypeId} (ho : o.op = .makeMap ty none) {sh : KShape} (k : ∀ b, h b = none → K (.map b) (h.upd b (.map sh []))) : EffOut P w h hf ρ o K := by
  obtain ⟨x, R1⟩ := Rel.alloc (w := w) (g := h.un hf) (o := .map #[] 0) (c := .map sh []) R (fun _ => ⟨#[], 0, alloc_at w _, rfl, by simp, fun i hi => absurd hi (Nat.not_lt_zero i)⟩)
  refine eff_new D R (v := .map (some w.heap.size)) ?_ x R1 (k _ (fresh_both R).1) (.map _) (alloc_old w _)
  simp [execOp, ho, Instr.makeMap]

theorem eff_range (D : Disj h hf) (R : Rel w (h.un hf)) (hρ : RepO w (h.un hf) ρ t) {K : AV → AHeap → Prop} {ty : TypeId} {x : Operand} (ho : o.op = .range ty x) (hu : P.underlying ty = some .string) {s : List UInt8} (hx : evalA t x = .str s)
    (k : ∀ b, h b = none → K (.ptr b 0) (h.upd b (.sit s 0))) : EffOut P w h hf ρ o K := by
  obtain ⟨b, hb, hbs⟩ := (hx ▸ hρ x : Rep w (h.un hf) (ρ x) (.str s)).inv_str
  obtain ⟨xx, R1⟩ := Rel.alloc (w := w) (g := h.un hf) (o := .stringIter b 0) (c := .sit s 0) R (fun _ => by
    show (w.alloc _).heap[w.heap.size]? = _
    rw [alloc_at]; subst hbs; rfl)
  refine eff_new D R (v := .pointer (some ⟨w.heap.size, 0, none⟩)) ?_ xx R1 (k _ (fresh_both R).1) (.ptr _ _) (alloc_old w _)
  simp [execOp, ho, Instr.range, run_underlying' hu, hb]

theorem run_getObj {b : Nat} {ob : Obj} (hb : w.heap[b]? = some ob) (hn : ∀ c e f, ob ≠ .cells c e f) : (getObj b).run P w = .ok ob w := by
  cases ob <;> first | (exact absurd rfl (hn _ _ _)) | simp [getObj, Sem.run, hb]
theorem run_setObj {b : Nat} {ob ob' : Obj} (hb : w.heap[b]? = some ob) (hn : ∀ c e f, ob ≠ .cells c e f) : (setObj b ob').run P w = .ok () (w.putObj b ob') := by
  cases ob <;> first | (exact absurd rfl (hn _ _ _)) | simp [setObj, Sem.run, hb, World.putObj]

theorem eff_put (D : Disj h hf) (R : Rel w (h.un hf)) {b : Nat} {c0 c : Chunk} {ob ob' : Obj} (hb : h b = some c0) (ho : w.heap[b]? = some ob) (hn : ∀ c e f, ob ≠ .cells c e f)
    (hk : ∀ _ : Ext w (h.un hf) (w.putObj b ob') ((h.un hf).upd b c), ChunkOk (w.putObj b ob') ((h.un hf).upd b c) b c) :
    Disj (h.upd b c) hf ∧ Rel (w.putObj b ob') ((h.upd b c).un hf) ∧ Stp w h hf (w.putObj b ob') (h.upd b c) := by
  obtain ⟨x, R1⟩ := R.upd (c := c) (AHeap.un_some hb) (Only.putObj w b ob') (fun cs e fr hc => by rw [ho] at hc; cases hc; exact absurd rfl (hn _ _ _)) hk
  refine ⟨D.upd (D.none_right hb), by rw [AHeap.un_upd]; exact R1, .only (by rw [AHeap.un_upd]; exact x) (Only.putObj w b ob') (D.none_right hb)⟩

theorem eff_next (D : Disj h hf) (R : Rel w (h.un hf)) (hρ : RepO w (h.un hf) ρ t) {K : AV → AHeap → Prop} {it : Operand} (ho : o.op = .next it true) {b : Nat} (hit : evalA t it = .ptr b 0) {s : List UInt8} {pos : Nat} (hb : h b = some (.sit s pos))
    (k1 : pos < s.length → K (.tup [.bool true, .int .i64 pos, .int .i32 (Utf8.decode ⟨s.toArray⟩ pos).1]) (h.upd b (.sit s (pos + (Utf8.decode ⟨s.toArray⟩ pos).2)))) (k2 : ¬ pos < s.length → K (.tup [.bool false]) h) : EffOut P w h hf ρ o K := by
  have hp := (hit ▸ hρ it : Rep w (h.un hf) (ρ it) (.ptr b 0)).inv_ptr
  have hob : w.heap[b]? = some (.stringIter ⟨s.toArray⟩ pos) := R b _ (AHeap.un_some hb)
  have hsz : (⟨s.toArray⟩ : ByteArray).size = s.length := by simp [ByteArray.size]
  by_cases hlt : pos < s.length
  · have hlt' : pos < (⟨s.toArray⟩ : ByteArray).size := by rw [hsz]; exact hlt
    obtain ⟨e1, e2, e3⟩ := eff_put (c := .sit s (pos + (Utf8.decode ⟨s.toArray⟩ pos).2)) (ob' := .stringIter ⟨s.toArray⟩ (pos + (Utf8.decode ⟨s.toArray⟩ pos).2)) D R hb hob (fun _ _ _ h => by cases h)
      (fun _ => World.putObj_heap_same (Array.getElem?_eq_some_iff.1 hob).1)
    refine ⟨.tuple #[.bool true, .int .i64 pos, .int .i32 (Utf8.decode ⟨s.toArray⟩ pos).1], _, _, _, .inl ?_, k1 hlt, ?_, e1, e2, e3⟩
    · simp only [execOp, ho, Instr.next, Sem.run_bind, hp, run_getObj hob (fun _ _ _ h => by cases h), Result.andThen, hlt', if_true, run_setObj hob (fun _ _ _ h => by cases h), Sem.run_pure]; rfl
    · exact .tup (vs := [.bool true, .int .i64 pos, .int .i32 (Utf8.decode ⟨s.toArray⟩ pos).1]) rfl (RepL.cons (.bool true) (.cons (.int _ _) (.cons (.int _ _) .nil))).2
  · have hlt' : ¬ pos < (⟨s.toArray⟩ : ByteArray).size := by rw [hsz]; exact hlt
    refine ⟨.tuple #[.bool false], w, _, _, .inl ?_, k2 hlt, ?_, D, R, .refl _ _ _⟩
    · simp only [execOp, ho, Instr.next, Sem.run_bind, hp, run_getObj hob (fun _ _ _ h => by cases h), Result.andThen, hlt', if_false, Sem.run_pure]
    · exact .tup (vs := [.bool false]) rfl (RepL.cons (.bool false) .nil).2
end
end Go.AH
