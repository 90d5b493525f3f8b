/-
  Operations that turn memory, continued: maps, append, copy, min, max; the soundness of effStep.
-/
import Derived.Test.YtobhipohnjmnhaaAhEff
set_option linter.unusedSimpArgs false
set_option linter.unusedVariables false
set_option linter.unusedSectionVars false
namespace Go.AH
open Go

section
variable {P : Program} {w : World} {g h hf : AHeap} {t : AF} {ρ : Operand → Value} {o : Oper}

theorem mapSet_none {k v : AV} : ∀ {es : List (AV × AV)}, mapGet es k = none → mapSet es k v = es ++ [(k, v)]
  | [], _ => rfl
  | e :: es, h => by
    simp only [mapGet] at h
    split at h
    · cases h
    · next hne => simp only [mapSet, hne, if_false, List.cons_append, mapSet_none h]

theorem mapSet_some {k v : AV} : ∀ {es : List (AV × AV)} {j : Nat}, mapIdx es k = some j → ∃ hj : j < es.length, es[j].1 = k ∧ mapSet es k v = es.set j (k, v)
  | [], j, h => by simp [mapIdx] at h
  | e :: es, j, h => by
    unfold mapIdx at h
    rw [List.findIdx?_cons] at h
    split at h
    · next hd =>
      have he : e.1 = k := by simpa using hd
      simp only [Option.some.injEq] at h
      subst h
      exact ⟨by simp, by simpa using he, by simp [mapSet, he]⟩
    · next hd =>
      have he : ¬ e.1 = k := by simpa using hd
      cases hi : es.findIdx? (fun e => @decide (e.1 = k) (Classical.propDecidable _)) with
      | none => rw [hi] at h; cases h
      | some i =>
        rw [hi] at h
        simp only [Option.map_some, Option.some.injEq] at h
        subst h
        obtain ⟨h1, h2, h3⟩ := mapSet_some (v := v) (show mapIdx es k = some i from hi)
        exact ⟨by simp; omega, by simpa using h2, by simp [mapSet, he, h3]⟩

theorem sameBits_one {v v' : Value} {a : AV} {k : KK} (r : Rep w g v a) (r' : Rep w g v' a) (e : kkOf a = some k) (n : Nat) : Instr.sameBits n v v' = true := by
  cases r <;> simp [kkOf] at e
  · cases r'; simp [Instr.sameBits]
  · cases r'; simp [Instr.sameBits]
  · rename_i s
    obtain ⟨s', rfl, h2⟩ := Rep.inv_str r'
    have : s = s' := by
      cases s; cases s'
      simp only [ByteArray.mk.injEq]
      exact Array.toList_inj.1 h2.symm
    subst this
    cases n <;> simp [Instr.sameBits, beq_toListBytes]

theorem sameBits_all {vs vs' : List Value} {cells : List AV} : ∀ {ks : List KK}, RepL w g vs cells → RepL w g vs' cells → cells.map kkOf = ks.map some → ∀ n, (vs.zip vs').all (fun p => Instr.sameBits n p.1 p.2) = true := by
  induction cells generalizing vs vs' with
  | nil => intro ks r _ _ n
           have : vs = [] := List.eq_nil_of_length_eq_zero (by have := r.1; simpa using this)
           subst this; rfl
  | cons a as ih =>
    intro ks r r' e n
    cases ks with
    | nil => simp at e
    | cons k ks =>
      obtain ⟨v, vs1, rfl, r1, r2⟩ := r.uncons
      obtain ⟨v', vs2, rfl, r1', r2'⟩ := r'.uncons
      simp only [List.map_cons, List.cons.injEq] at e
      simp only [List.zip_cons_cons, List.all_cons, Bool.and_eq_true]
      exact ⟨sameBits_one r1 r1' e.1 n, ih r2 r2' e.2 n⟩

theorem sameBits_key {sh : KShape} {v v' : Value} {a : AV} (r : Rep w g v a) (r' : Rep w g v' a) (e : sh.ok a = true) : Instr.sameBits 10000 v v' = true := by
  cases sh with
  | one k => exact sameBits_one r r' (by simpa [KShape.ok] using e) _
  | many ks =>
    obtain ⟨vs, cells, rfl, rfl, r1, e1⟩ := many_rep r e
    obtain ⟨vs', cells', rfl, ha, r2, _⟩ := many_rep r' e
    cases ha
    have hl : vs.length = vs'.length := by rw [r1.1, r2.1]
    have := sameBits_all r1 r2 e1 9999
    simp only [Instr.sameBits]
    simp [hl]
    simpa using this

theorem eff_mapSet (D : Disj h hf) (R : Rel w (h.un hf)) {K : AV → AHeap → Prop} {kt et : TypeId} {ty : TypeId} (hu : P.underlying ty = some (.map kt et)) {b : Nat} {sh : KShape} {es : List (AV × AV)} (hb : h b = some (.map sh es))
    (hs : shapeT P kt = some sh) {vk vx : Value} {k x : AV} (rk : Rep w (h.un hf) vk k) (rx : Rep w (h.un hf) vx x) (hk : sh.ok k = true) (hK : K .undef (h.upd b (.map sh (mapSet es k x)))) (hrun : (execOp ρ o) = (do Instr.mapUpdate ty (.map (some b)) vk vx; pure .skip)) :
    EffOut P w h hf ρ o K := by
  obtain ⟨ents, clock, h1, h2, h3, h4⟩ := R b _ (AHeap.un_some hb)
  have hE : RepE w (h.un hf) ents.toList es := ⟨by simpa using h2, fun i hi hj => by have := h4 i hi (by simpa using hj); simpa using this⟩
  obtain ⟨r, hr1, hr2⟩ := run_findKey (P := P) hs rk hk hE h3
  have hck := run_checkKey (P := P) hs rk hk false
  have mapOk : ∀ e ∈ mapSet es k x, sh.ok e.1 = true := by
    intro e he
    cases hg : mapGet es k with
    | none => rw [mapSet_none hg] at he
              rcases List.mem_append.1 he with he | he
              · exact h3 e he
              · simp at he; subst he; exact hk
    | some a =>
      cases r with
      | none => simp [FoundAt, hg] at hr2
      | some p =>
        obtain ⟨j, _, _, _, _, _, hj⟩ := hr2
        obtain ⟨_, _, e3⟩ := mapSet_some (v := x) hj
        rw [e3] at he
        rcases List.mem_or_eq_of_mem_set he with he | he
        · exact h3 e he
        · subst he; exact hk
  cases r with
  | none =>
    have hg : mapGet es k = none := hr2
    rw [mapSet_none hg] at hK mapOk
    obtain ⟨e1, e2, e3⟩ := eff_put (c := .map sh (es ++ [(k, x)])) (ob' := .map (ents.push { key := vk, val := vx, born := clock }) (clock + 1)) D R hb h1 (fun _ _ _ h => by cases h) (fun xx => by
      refine ⟨_, _, World.putObj_heap_same (Array.getElem?_eq_some_iff.1 h1).1, by simp [h2], mapOk, ?_⟩
      intro i hi hj
      have hi2 : i < es.length ∨ i = es.length := by simp at hi; omega
      rcases hi2 with hi2 | hi2
      · have hi3 : i < ents.size := by omega
        have := h4 i hi2 hi3
        simp only [Array.getElem_push, hi3, dite_true, List.getElem_append_left hi2]
        exact ⟨this.1.ext xx, this.2.ext xx⟩
      · subst hi2
        have : ¬ es.length < ents.size := by omega
        simp only [Array.getElem_push, this, dite_false]
        simp
        exact ⟨rk.ext xx, rx.ext xx⟩)
    refine ⟨Go.undef, _, _, _, .inr ⟨?_, rfl⟩, hK, .undef _, e1, e2, e3⟩
    rw [hrun]
    simp only [Sem.run_bind, Instr.mapUpdate, run_underlying' hu, Result.andThen, run_getObj h1 (fun _ _ _ h => by cases h), hck, hr1, run_setObj h1 (fun _ _ _ h => by cases h), Sem.run_pure]
  | some p =>
    obtain ⟨i, y⟩ := p
    obtain ⟨j, a, hij, hg, _, ⟨hj, _⟩, hidx⟩ := hr2
    obtain ⟨hjl, hjk, hset⟩ := mapSet_some (v := x) hidx
    have hij' : i = j := by omega
    subst hij'
    have hi3 : i < ents.size := by simpa using hj
    have hkey := (h4 i hjl hi3).1
    rw [hjk] at hkey
    have hsb := sameBits_key hkey rk hk
    rw [hset] at hK mapOk
    obtain ⟨e1, e2, e3⟩ := eff_put (c := .map sh (es.set i (k, x))) (ob' := .map (ents.modify i fun e => { e with key := vk, val := vx }) clock) D R hb h1 (fun _ _ _ h => by cases h) (fun xx => by
      refine ⟨_, _, World.putObj_heap_same (Array.getElem?_eq_some_iff.1 h1).1, by simp [h2], mapOk, ?_⟩
      intro l hl hl2
      simp only [List.getElem_set, Array.getElem_modify]
      simp only [List.length_set] at hl
      split
      · next hil => exact ⟨rk.ext xx, rx.ext xx⟩
      · next hil =>
        have := h4 l hl (by omega)
        exact ⟨this.1.ext xx, this.2.ext xx⟩)
    refine ⟨Go.undef, _, _, _, .inr ⟨?_, rfl⟩, hK, .undef _, e1, e2, e3⟩
    rw [hrun]
    simp only [Sem.run_bind, Instr.mapUpdate, run_underlying' hu, Result.andThen, run_getObj h1 (fun _ _ _ h => by cases h), hck, hr1]
    have hold : ((ents[i]?).map (·.key)).getD vk = ents[i].key := by simp [hi3]
    simp only [hold, Instr.keyThatStays, hsb, if_true, Sem.run_pure, run_setObj h1 (fun _ _ _ h => by cases h)]

theorem zeroV_sound {et : TypeId} {z : AV} (e : zeroV P et = some z) : ∃ v, (zeroValue et).run P w = .ok v w ∧ Rep w g v z := by
  unfold zeroV at e
  cases hi : P.info? et with
  | none => simp [hi] at e
  | some i =>
    simp only [hi, Option.bind_some] at e
    split at e
    · next v hz =>
      split at e
      · cases e
      · next a _ hx =>
        simp only [Option.some.injEq] at e
        subst e
        exact ⟨v, by simp [zeroValue, typeInfo, hi, hz], cval_rep v⟩
    · cases e

theorem eff_lookup (D : Disj h hf) (R : Rel w (h.un hf)) (hρ : RepO w (h.un hf) ρ t) {K : AV → AHeap → Prop} {ty : TypeId} {m k : Operand} {ok : Bool} (ho : o.op = .lookup ty m k ok) {kt et : TypeId} (hu : P.underlying ty = some (.map kt et))
    {z : AV} (hz : zeroV P et = some z) {b : Nat} (hm : evalA t m = .map b) {sh : KShape} {es : List (AV × AV)} (hb : h b = some (.map sh es)) (hs : shapeT P kt = some sh) (hk : sh.ok (evalA t k) = true)
    (hK : K (if ok then .tup [(mapGet es (evalA t k)).getD z, .bool (mapGet es (evalA t k)).isSome] else (mapGet es (evalA t k)).getD z) h) : EffOut P w h hf ρ o K := by
  obtain ⟨ents, clock, h1, h2, h3, h4⟩ := R b _ (AHeap.un_some hb)
  have hE : RepE w (h.un hf) ents.toList es := ⟨by simpa using h2, fun i hi hj => by have := h4 i hi (by simpa using hj); simpa using this⟩
  obtain ⟨r, hr1, hr2⟩ := run_findKey (P := P) hs (hρ k) hk hE h3
  have hck := run_checkKey (P := P) hs (hρ k) hk ents.isEmpty
  have hmv := (hm ▸ hρ m : Rep w (h.un hf) (ρ m) (.map b)).inv_map
  obtain ⟨zv, hz1, hz2⟩ := zeroV_sound (P := P) (w := w) (g := h.un hf) hz
  obtain ⟨v, bb, hrun, hv, hbb⟩ : ∃ v bb, (Instr.lookup ty (ρ m) (ρ k) ok).run P w = .ok (if ok then .tuple #[v, .bool bb] else v) w ∧ Rep w (h.un hf) v ((mapGet es (evalA t k)).getD z) ∧ bb = (mapGet es (evalA t k)).isSome := by
    cases r with
    | none =>
      have hg : mapGet es (evalA t k) = none := hr2
      refine ⟨zv, false, ?_, by rw [hg]; exact hz2, by rw [hg]; rfl⟩
      simp only [Instr.lookup, Sem.run_bind, run_underlying' hu, Result.andThen, hmv, run_getObj h1 (fun _ _ _ h => by cases h), Sem.run_pure, hck, hr1, hz1]
    | some p =>
      obtain ⟨i, y⟩ := p
      obtain ⟨j, a, _, hg, hya, _, _⟩ := hr2
      refine ⟨y, true, ?_, by rw [hg]; exact hya, by rw [hg]; rfl⟩
      simp only [Instr.lookup, Sem.run_bind, run_underlying' hu, Result.andThen, hmv, run_getObj h1 (fun _ _ _ h => by cases h), Sem.run_pure, hck, hr1]
  refine ⟨if ok then .tuple #[v, .bool bb] else v, w, _, h, .inl ?_, hK, ?_, D, R, .refl _ _ _⟩
  · simp [execOp, ho, hrun]
  · cases ok with
    | true => exact .tup (vs := [v, .bool bb]) rfl (RepL.cons hv (.cons (hbb ▸ .bool bb) .nil)).2
    | false => exact hv

theorem minA_sound {mx : Bool} : ∀ {as : List AV} {vs : List Value} {a r : AV} {v : Value}, Rep w g v a → RepL w g vs as → minA mx a as = some r →
    ∃ x, (vs.foldlM (if mx then Builtin.max2 else Builtin.min2) v).run P w = .ok x w ∧ Rep w g x r
  | [], vs, a, r, v, rv, rs, e => by
    have : vs = [] := List.eq_nil_of_length_eq_zero (by have := rs.1; simpa using this)
    subst this
    cases a <;> simp [minA] at e <;> subst e <;> exact ⟨v, rfl, rv⟩
  | a' :: as, vs, a, r, v, rv, rs, e => by
    obtain ⟨v', vs', rfl, r1, r2⟩ := rs.uncons
    cases a <;> cases a' <;> simp [minA] at e
    rename_i k x k' y
    have e1 := rv.inv_int
    have e2 := r1.inv_int
    subst e1; subst e2
    obtain ⟨z, h1, h2⟩ := minA_sound (mx := mx) (.int k (if (if mx then x < y else y < x) then y else x)) r2 (by simpa using e)
    refine ⟨z, ?_, h2⟩
    rw [List.foldlM_cons, Sem.run_bind]
    cases mx with
    | true => simpa [Builtin.max2, Result.andThen] using h1
    | false => simpa [Builtin.min2, Result.andThen] using h1

/-- What an append or a copy reads. -/
theorem appXs_sound (R : Rel w (h.un hf)) {es k : Nat} {x : AV} {xs : List AV} {vx : Value} (rx : Rep w (h.un hf) vx x) (e : appXs h es x = some (k, xs)) :
    (Builtin.lenOf vx).run P w = .ok k w ∧ xs.length = k * es ∧ (∀ y ∈ xs, y.one = true) ∧ ∀ n, n ≤ k → ∃ vs : List Value, (Builtin.firstCells es n vx).run P w = .ok vs.toArray w ∧ RepL w (h.un hf) vs (xs.take (n * es)) := by
  unfold appXs at e
  have fromCells : ∀ {b off c : Nat} {cells : List AV}, Cells w (h.un hf) b off cells → cells.length = k * es → ∀ n, n ≤ k → ∃ vs : List Value, (Builtin.firstCells es n (.slice (some ⟨b, off, none⟩) k c)).run P w = .ok vs.toArray w ∧ RepL w (h.un hf) vs (cells.take (n * es)) := by
    intro b off c cells hc hl n hn
    obtain ⟨ho, us, h1, h2⟩ := hc
    have hle : n * es ≤ cells.length := by rw [hl]; exact Nat.mul_le_mul_right _ hn
    refine ⟨(List.range (n * es)).map us, ?_, by simp; omega, fun i hi hj => ?_⟩
    · simp only [Builtin.firstCells]
      exact run_loadCells (P := P) (fun j hj => h1 j (by omega))
    · simp only [List.getElem_map, List.getElem_range, List.getElem_take]
      exact h2 i (by simp at hj; omega)
  split at e
  · cases e
    rw [rx.inv_nilsl]
    exact ⟨rfl, by simp, by simp, fun n hn => ⟨[], by simp [Builtin.firstCells], by simp [RepL.nil]⟩⟩
  · next n cells =>
    split at e
    · next hl =>
      cases e
      by_cases hne : xs = []
      · subst hne
        obtain ⟨a, c, rfl, _⟩ := rx.inv_sl
        simp at hl
        refine ⟨rfl, by simpa using hl, by simp, fun n hn => ⟨[], ?_, by simp [RepL.nil]⟩⟩
        have : n * es = 0 := by
          rcases Nat.mul_eq_zero.1 hl.symm with h0 | h0
          · have : n = 0 := by omega
            simp [this]
          · simp [h0]
        cases a with
        | none => rfl
        | some a => simp [Builtin.firstCells, this, loadCells, loadCellsFrom]
      · obtain ⟨b, off, c, rfl, _, _, _, hc⟩ := cells_of_sl rx hne
        exact ⟨rfl, hl, hc.1, fromCells hc hl⟩
    · cases e
  · next b off n es' =>
    split at e
    · next cs hb =>
      split at e
      · next hc =>
        obtain ⟨rfl, hle⟩ := hc
        cases e
        obtain ⟨c, rfl, _⟩ := rx.inv_osl
        have hcl := ((Rel.cells R (AHeap.un_some hb)).drop off).take (k * es')
        rw [Nat.zero_add] at hcl
        have hlen : ((cs.drop off).take (k * es')).length = k * es' := by rw [List.length_take]; omega
        exact ⟨rfl, hlen, hcl.1, fromCells hcl hlen⟩
      · cases e
    · cases e
  · next s =>
    split at e
    · next hes =>
      subst hes
      cases e
      obtain ⟨b, rfl, hbs⟩ := rx.inv_str
      have hsz : b.size = s.length := by rw [← hbs]; simp
      refine ⟨by simp [Builtin.lenOf, hsz], by simp, by simp [AV.one], fun n hn => ⟨(b.data.toList.take n).map fun b => .int .u8 b.toNat, ?_, ?_⟩⟩
      · simp only [Builtin.firstCells, Sem.run_pure]
        congr 1
        apply Array.toList_inj.1
        simp [List.extract_eq_take_drop]
      · refine ⟨by simp [← hbs], fun i hi hj => ?_⟩
        simp only [List.getElem_map, List.getElem_take, ← hbs]
        exact .int _ _
    · cases e
  · cases e

theorem nextslicecap_le {need old : Nat} (h : old < need) : Builtin.nextslicecap need old ≤ 2 * need + 192 := by
  unfold Builtin.nextslicecap
  split
  · omega
  · split
    · omega
    · have key : ∀ r c, c ≤ 2 * need + 192 → Builtin.growBy need r c ≤ 2 * need + 192 := by
        intro r
        induction r with
        | zero => intro c hc; exact hc
        | succ r ih =>
          intro c hc
          unfold Builtin.growBy
          split
          · exact hc
          · next hlt => exact ih _ (by omega)
      exact key 4 old (by omega)

theorem forced_append (need old : Nat) (e : TypeId) : (Question.appendCap need old e).forced = false := rfl

theorem rowT_cases {tx : TypeId} (h : rowT P tx = true) : (∃ e, P.underlying tx = some (.slice e)) ∨ P.underlying tx = some .string := by
  unfold rowT at h
  split at h
  · next e hu => exact .inl ⟨e, hu⟩
  · next hu => exact .inr hu
  · cases h

/-- An append that makes a new array. -/
theorem run_append_new {ts tx e : TypeId} {es by_ : Nat} {z : List AV} (he : elemT P ts = some (e, es, by_, z)) (hi : rowT P tx = true) {rt : TypeId} {base : Option Addr} {n c k : Nat} {vx : Value}
    (hgrow : c < n + k) (hsmall : n + k < 2 ^ 30) (hlen : (Builtin.lenOf vx).run P w = .ok k w) {olds news : List Value} (ho : (Builtin.firstCells es n (.slice base n c)).run P w.drew = .ok olds.toArray w.drew) (hn : (Builtin.firstCells es k vx).run P w.drew = .ok news.toArray w.drew)
    (hol : olds.length = n * es) (hnl : news.length = k * es) :
    ∃ cs : Array Value, ∃ cap, n + k ≤ cap ∧ cs.size = cap * es ∧ cs.toList.take ((n + k) * es) = olds ++ news ∧
      (Builtin.append_ #[ts, tx] rt #[.slice base n c, vx]).run P w = .ok (.slice (some ⟨w.heap.size, 0, none⟩) (n + k) cap) ((w.drew).alloc (.cells cs e)) := by
  obtain ⟨hu, hs, hb, hz, hzl, hby⟩ := elemT_spec he
  obtain ⟨zv, h1, h2, h3⟩ := zeroT_sound (P := P) (w := w.drew) (g := AHeap.empty) hz
  have hzs : zv.cells.size = es := by have := h2.1; simp at this; omega
  cases hinf : P.info? e with
  | none => simp [szT, hinf] at hs
  | some i =>
    have hby' : i.bytes = by_ := by simpa [bytesT, hinf] using hb
    have hti : (typeInfo e).run P w = .ok i w := by simp [typeInfo, hinf]
    have hti' : (typeInfo e).run P w.drew = .ok i w.drew := by simp [typeInfo, hinf]
    have hcap : Builtin.nextslicecap (n + k) c ≤ 2 * (n + k) + 192 := nextslicecap_le hgrow
    have hno : ¬ (Builtin.nextslicecap (n + k) c * i.bytes > 2 ^ 48) := by
      have : Builtin.nextslicecap (n + k) c * i.bytes ≤ (2 * (n + k) + 192) * 65536 := Nat.mul_le_mul hcap (by omega)
      omega
    obtain ⟨cap, hcap1, hcap2⟩ : ∃ cap, (choose (.appendCap (n + k) c e)).run P w = .ok cap w.drew ∧ n + k ≤ cap :=
      ⟨(Question.appendCap (n + k) c e).cut (w.tape w.drawn (.appendCap (n + k) c e)), by simp [forced_append], by simp [Question.cut]⟩
    have hmax : ¬ (((n + k : Nat) : Int) > IntKind.i64.max ∧ (false = true ∨ i.bytes = 0)) := by
      simp only [IntKind.max, IntKind.signed, IntKind.bits, if_true]; omega
    refine ⟨olds.toArray ++ news.toArray ++ Builtin.zeroCells zv.cells (cap - (n + k)), cap, hcap2, ?_, ?_, ?_⟩
    · simp only [Array.size_append, List.size_toArray, Builtin.zeroCells, Array.size_map, Array.size_range, hol, hnl, hzs]
      rw [← Nat.add_mul, ← Nat.add_mul]; congr 1; omega
    · simp only [Array.toList_append]
      rw [List.take_append_of_le_length (by simp [hol, hnl, Nat.add_mul]), List.take_of_length_le (by simp [hol, hnl, Nat.add_mul])]
    · have hz' : i.zero = some zv := by
        have := h1
        simp only [zeroValue, Sem.run_bind, hti', Result.andThen] at this
        cases hzi : i.zero with
        | none => rw [hzi] at this; simp at this
        | some z0 => rw [hzi] at this; simp at this; rw [this]
      have his : i.size = es := by simpa [szT, hinf] using hs
      subst his
      have hnn : ¬ (n + k ≤ c) := by omega
      have h63' : ¬ (9223372036854775807 < ((n : Int) + (k : Int))) := by omega
      have h48' : ¬ (281474976710656 < Builtin.nextslicecap (n + k) c * i.bytes) := by omega
      have hcap1' : (choose (.appendCap (n + k) c e)).run P w = .ok cap w.drew := hcap1
      have hcut : (Question.appendCap (n + k) c e).cut (w.tape w.drawn (.appendCap (n + k) c e)) = cap := by
        simp [forced_append] at hcap1
        exact hcap1
      rcases rowT_cases hi with ⟨e', hd⟩ | hd
      · simp [Builtin.append_, run_underlying' hu, run_underlying' hd, sizeOf, typeInfo, zeroValue, hinf, hz', hlen, hnn, h63', h48', forced_append, hcut, ho, hn, newRow]
        congr 2
        apply Array.ext'
        simp [List.append_assoc]
      · simp [Builtin.append_, run_underlying' hu, run_underlying' hd, sizeOf, typeInfo, zeroValue, hinf, hz', hlen, hnn, h63', h48', forced_append, hcut, ho, hn, newRow]
        congr 2
        apply Array.ext'
        simp [List.append_assoc]

/-- An append that has room. -/
theorem run_append_room' {ts tx e : TypeId} {es by_ : Nat} {z : List AV} (he : elemT P ts = some (e, es, by_, z)) (hi : rowT P tx = true) {rt : TypeId} {base : Option Addr} {n c k : Nat} {vx : Value}
    (hroom : n + k ≤ c) (hlen : (Builtin.lenOf vx).run P w = .ok k w) {news : List Value} (hn : (Builtin.firstCells es k vx).run P w = .ok news.toArray w) :
    (Builtin.append_ #[ts, tx] rt #[.slice base n c, vx]).run P w = ((match base with | some a => storeCells (a.add (n * es)) news | none => pure ()).run P w).andThen fun _ w' => .ok (.slice base (n + k) c) w' := by
  obtain ⟨hu, hs, hb, hz, hzl, hby⟩ := elemT_spec he
  cases hinf : P.info? e with
  | none => simp [szT, hinf] at hs
  | some i =>
    have his : i.size = es := by simpa [szT, hinf] using hs
    subst his
    rcases rowT_cases hi with ⟨e', hd⟩ | hd
    · cases base <;> simp [Builtin.append_, run_underlying' hu, run_underlying' hd, sizeOf, typeInfo, hinf, hlen, hroom, hn]
    · cases base <;> simp [Builtin.append_, run_underlying' hu, run_underlying' hd, sizeOf, typeInfo, hinf, hlen, hroom, hn]

theorem Rel.ofDrew (R : Rel w (h.un hf)) : Rel w.drew (h.un hf) := R.drew

theorem eff_append (D : Disj h hf) (R : Rel w (h.un hf)) (hρ : RepO w (h.un hf) ρ t) {K : AV → AHeap → Prop} {args : Array Operand} {argTypes : Array TypeId} {s x : Operand} {ts tx : TypeId} (ho : o.op = .call { callee := .builtin .append, args, argTypes })
    (ha : args.toList = [s, x]) (hat : argTypes.toList = [ts, tx]) {e : TypeId} {es by_ : Nat} {z : List AV} (he : elemT P ts = some (e, es, by_, z)) (hi : rowT P tx = true)
    {k : Nat} {xs : List AV} (hxs : appXs h es (evalA t x) = some (k, xs))
    (hK : match evalA t s with
      | .nilsl => (k = 0 → K .nilsl h) ∧ (k ≠ 0 → k < 2 ^ 30 ∧ ∀ b, h b = none → K (.osl b 0 k es) (h.upd b (.cells xs)))
      | .osl b 0 n es' => es' = es ∧ n + k < 2 ^ 30 ∧ match h b with
        | some (.cells cs) => cs.length = n * es ∧ ∀ b', (h.del b) b' = none → K (.osl b' 0 (n + k) es) ((h.del b).upd b' (.cells (cs ++ xs)))
        | _ => False
      | _ => False) : EffOut P w h hf ρ o K := by
  have ea : args = #[s, x] := by cases args; simpa using ha
  have eat : argTypes = #[ts, tx] := by cases argTypes; simpa using hat
  have hrun : ∀ v w', (Builtin.append_ #[ts, tx] o.type #[ρ s, ρ x]).run P w = .ok v w' → (execOp ρ o).run P w = .ok (.value v) w' := by
    intro v w' hr
    simp [execOp, ho, resolve, invoke, builtin, ea, eat, hr]
  obtain ⟨hl, hxl, hxo, hxc⟩ := appXs_sound (P := P) R (hρ x) hxs
  have Rd := R.ofDrew
  have hρx' : Rep w.drew (h.un hf) (ρ x) (evalA t x) := (hρ x).ext ((Ext.refl w _).drew)
  obtain ⟨_, _, _, hxc'⟩ := appXs_sound (P := P) Rd hρx' hxs
  split at hK
  · next hs =>
    have hsv := (hs ▸ hρ s : Rep w (h.un hf) (ρ s) .nilsl).inv_nilsl
    obtain ⟨k1, k2⟩ := hK
    by_cases hk0 : k = 0
    · subst hk0
      obtain ⟨vs, hv1, hv2⟩ := hxc 0 (Nat.le_refl _)
      refine ⟨.slice none 0 0, w, .nilsl, h, .inl (hrun _ _ ?_), k1 rfl, .nilsl, D, R, .refl _ _ _⟩
      rw [hsv, run_append_room' he hi (by omega) hl hv1]; rfl
    · obtain ⟨hsm, k3⟩ := k2 hk0
      obtain ⟨vs, hv1, hv2⟩ := hxc' k (Nat.le_refl _)
      have hvl : vs.length = k * es := by have := hv2.1; rw [List.take_of_length_le (by omega)] at this; omega
      obtain ⟨cs, cap, c1, c2, c3, c4⟩ := run_append_new (w := w) he hi (rt := o.type) (base := none) (n := 0) (c := 0) (by omega) (by omega) hl (olds := []) rfl hv1 (by simp) hvl
      simp only [Nat.zero_add, List.nil_append] at c1 c3 c4
      rw [List.take_of_length_le (by omega)] at hv2
      obtain ⟨xx, R1⟩ := new_cells (w := w.drew) (g := h.un hf) Rd (e := e) (vs := cs) (cs := xs) (by rw [hxl, c3]; exact hv2) hxo
      have xx' : Ext w (h.un hf) (w.drew.alloc (.cells cs e)) ((h.un hf).upd w.heap.size (.cells xs)) := ((Ext.refl w _).drew).trans xx
      exact eff_new D R (v := .slice (some ⟨w.heap.size, 0, none⟩) k cap) (hrun _ _ (by rw [hsv]; exact c4)) xx' R1 (k3 _ (fresh_both R).1) (.osl c1 ⟨cs, e, (0, 0), alloc_at w.drew _, by omega⟩) (alloc_old w.drew _)
  · next b n es' hs =>
    obtain ⟨rfl, hsm, hK⟩ := hK
    split at hK
    · next cs hb =>
      obtain ⟨hcl, hK⟩ := hK
      obtain ⟨cp, hsv, hncp, arr, te, fr, ha1, ha2⟩ := (hs ▸ hρ s : Rep w (h.un hf) (ρ s) (.osl b 0 n es')).inv_osl
      obtain ⟨us, ty, h1, h2, h3, h4⟩ := R b _ (AHeap.un_some hb)
      rw [ha1] at h1
      cases h1
      have hfb : hf b = none := D.none_right hb
      by_cases hroom : n + k ≤ cp
      · -- there is room
        obtain ⟨vs, hv1, hv2⟩ := hxc k (Nat.le_refl _)
        rw [List.take_of_length_le (by omega)] at hv2
        have hvl : vs.length = k * es' := by have := hv2.1; omega
        have hfit : n * es' + k * es' ≤ arr.size := by rw [← Nat.add_mul]; exact Nat.le_trans (Nat.mul_le_mul_right _ hroom) (by omega)
        obtain ⟨w', arr', e1, e2, e3, e4⟩ := run_storeCells (P := P) vs 0 w (n * es') arr te ha1 (by omega) (hv2.ones hxo)
        have hsz : arr'.size = arr.size := by
          have := congrArg List.length e4
          simp at this
          omega
        obtain ⟨x1, R1⟩ := R.upd (c := .cells (cs ++ xs)) (AHeap.un_some hb) e2 (fun cs0 e0' fr0 hc => by rw [ha1] at hc; cases hc; exact ⟨arr', (0, 0), e3, hsz⟩) (fun x1 => by
          refine ⟨arr', te, e3, by rw [List.length_append]; omega, ?_, ?_⟩
          · intro y hy
            rcases List.mem_append.1 hy with hy | hy
            · exact h3 y hy
            · exact hxo y hy
          · have r0 : RepL w (h.un hf) (arr.toList.take (n * es')) cs := ⟨by simp; omega, fun i hi hj => by simpa using h4 i hj (by simp at hi; omega)⟩
            have r1 := r0.append hv2
            have e5 : arr'.toList.take (cs ++ xs).length = arr.toList.take (n * es') ++ vs := by
              rw [e4, Nat.add_zero, List.length_append, hcl, hxl, ← hvl]
              rw [List.take_append_of_le_length (by simp; omega), List.take_of_length_le (by simp; omega)]
            rw [← e5] at r1
            intro i hi hj
            have h6 : i < (arr'.toList.take (cs ++ xs).length).length := by have := r1.1; omega
            have := (r1.2 i h6 hi).ext x1
            simpa using this)
        have hd : (h.del b) b = none := AHeap.del_same
        refine ⟨.slice (some ⟨b, 0, none⟩) (n + k) cp, w', .osl b 0 (n + k) es', (h.del b).upd b (.cells (cs ++ xs)), .inl (hrun _ _ ?_), hK b hd, ?_, ?_, ?_, ?_⟩
        · rw [hsv, run_append_room' he hi hroom hl hv1]
          simp only [add_none, Nat.zero_add, e1, Result.andThen]
        · exact .osl hroom ⟨arr', te, (0, 0), e3, by omega⟩
        · exact (D.del).upd hfb
        · rw [AHeap.upd_del, AHeap.un_upd]; exact R1
        · exact .only (by rw [AHeap.upd_del, AHeap.un_upd]; exact x1) e2 hfb
      · -- a new array
        obtain ⟨vs, hv1, hv2⟩ := hxc' k (Nat.le_refl _)
        rw [List.take_of_length_le (by omega)] at hv2
        have hvl : vs.length = k * es' := by have := hv2.1; omega
        have hcells := Rel.cells Rd (AHeap.un_some (g := hf) hb)
        obtain ⟨ho1, us, hu1, hu2⟩ := hcells
        have hold : (Builtin.firstCells es' n (.slice (some ⟨b, 0, none⟩) n cp)).run P w.drew = .ok ((List.range (n * es')).map us).toArray w.drew := by
          simp only [Builtin.firstCells]
          exact run_loadCells (P := P) (fun j hj => by have := hu1 j (by omega); simpa using this)
        have hor : RepL w.drew (h.un hf) ((List.range (n * es')).map us) cs := ⟨by simp; omega, fun i hi hj => by simp only [List.getElem_map, List.getElem_range]; exact hu2 i hj⟩
        obtain ⟨ncs, cap, c1, c2, c3, c4⟩ := run_append_new (w := w) he hi (rt := o.type) (base := some ⟨b, 0, none⟩) (n := n) (c := cp) (by omega) hsm hl hold hv1 (by simp) hvl
        obtain ⟨xx, R1⟩ := new_cells (w := w.drew) (g := h.un hf) Rd (e := e) (vs := ncs) (cs := cs ++ xs) (by
            rw [List.length_append, hcl, hxl, ← Nat.add_mul, c3]; exact hor.append hv2) (by
            intro y hy
            rcases List.mem_append.1 hy with hy | hy
            · exact h3 y hy
            · exact hxo y hy)
        have xx' : Ext w (h.un hf) (w.drew.alloc (.cells ncs e)) ((h.un hf).upd w.heap.size (.cells (cs ++ xs))) := ((Ext.refl w _).drew).trans xx
        obtain ⟨f1, f2⟩ := fresh_both R
        have hne : w.heap.size ≠ b := fun e => by rw [e, hb] at f1; cases f1
        have hd : (h.del b) w.heap.size = none := by rw [AHeap.del_ne hne]; exact f1
        have heq : ((h.del b).upd w.heap.size (.cells (cs ++ xs))).un hf = ((h.un hf).upd w.heap.size (.cells (cs ++ xs))).del b := by
          rw [AHeap.un_upd, AHeap.un_del hfb, AHeap.del_upd_ne hne]
        have x2 : Ext (w.drew.alloc (.cells ncs e)) ((h.un hf).upd w.heap.size (.cells (cs ++ xs))) (w.drew.alloc (.cells ncs e)) (((h.un hf).upd w.heap.size (.cells (cs ++ xs))).del b) :=
          ⟨Nat.le_refl _, fun i _ hi => ⟨by by_cases e : i = b <;> simp [AHeap.del, e, hi], rfl⟩, fun i cs e fr hc => ⟨cs, fr, hc, rfl⟩, rfl, rfl, rfl⟩
        have R2 : Rel (w.drew.alloc (.cells ncs e)) (((h.un hf).upd w.heap.size (.cells (cs ++ xs))).del b) := R1.step x2 (fun i c hc => by
          by_cases e : i = b
          · subst e; simp at hc
          · rw [AHeap.del_ne e] at hc; exact .inl ⟨hc, rfl⟩)
        refine ⟨.slice (some ⟨w.heap.size, 0, none⟩) (n + k) cap, w.drew.alloc (.cells ncs e), .osl w.heap.size 0 (n + k) es', (h.del b).upd w.heap.size (.cells (cs ++ xs)), .inl (hrun _ _ (by rw [hsv]; exact c4)), hK _ hd,
          .osl c1 ⟨ncs, e, (0, 0), alloc_at w.drew _, by omega⟩, (D.del).upd f2, ?_, ?_⟩
        · rw [heq]; exact R2
        · refine ⟨by rw [heq]; exact xx'.trans x2, fun i hi => alloc_old w.drew _ i ?_⟩
          cases hc : hf i with
          | none => exact absurd hc hi
          | some c =>
            have hlt : i < w.heap.size := R.lt (c := c) (by rw [D.un_comm]; exact AHeap.un_some hc)
            exact hlt
    · exact hK.elim
  · exact hK.elim

theorem eff_copy (D : Disj h hf) (R : Rel w (h.un hf)) (hρ : RepO w (h.un hf) ρ t) {K : AV → AHeap → Prop} {args : Array Operand} {argTypes : Array TypeId} {d x : Operand} {td tx : TypeId} (ho : o.op = .call { callee := .builtin .copy, args, argTypes })
    (ha : args.toList = [d, x]) (hat : argTypes.toList = [td, tx]) {e : TypeId} {es by_ : Nat} {z : List AV} (he : elemT P td = some (e, es, by_, z)) {k : Nat} {xs : List AV} (hxs : appXs h es (evalA t x) = some (k, xs))
    {b off n : Nat} (hd : evalA t d = .osl b off n es) {cs : List AV} (hb : h b = some (.cells cs)) (hle : off + n * es ≤ cs.length) (hK : K (.int .i64 (min k n)) (h.upd b (.cells (splice cs off (xs.take (min k n * es)))))) : EffOut P w h hf ρ o K := by
  have ea : args = #[d, x] := by cases args; simpa using ha
  have eat : argTypes = #[td, tx] := by cases argTypes; simpa using hat
  obtain ⟨hu, hs, _, _, _, _⟩ := elemT_spec he
  obtain ⟨hl, hxl, hxo, hxc⟩ := appXs_sound (P := P) R (hρ x) hxs
  obtain ⟨vs, hv1, hv2⟩ := hxc (min k n) (Nat.min_le_left _ _)
  obtain ⟨cp, hdv, _⟩ := (hd ▸ hρ d : Rep w (h.un hf) (ρ d) (.osl b off n es)).inv_osl
  have hlen : (xs.take (min k n * es)).length ≤ n * es := by
    rw [List.length_take]
    exact Nat.le_trans (Nat.min_le_left _ _) (Nat.mul_le_mul_right _ (Nat.min_le_right _ _))
  obtain ⟨w', h4, h5, h6, h7⟩ := store_cells (P := P) R (AHeap.un_some hb) (off := off) hv2 (fun y hy => hxo y (List.mem_of_mem_take hy)) (by omega)
  refine ⟨.int .i64 (min k n), w', _, _, .inl ?_, hK, .int _ _, D.upd (D.none_right hb), by rw [AHeap.un_upd]; exact h6, .only (by rw [AHeap.un_upd]; exact h5) h7 (D.none_right hb)⟩
  have hmin : Nat.min k n = min k n := rfl
  simp [execOp, ho, resolve, invoke, builtin, ea, eat, Builtin.copy_, run_underlying' hu, hdv, hl, run_sizeOf hs, hmin, hv1, h4, goInt]
  omega

theorem effStep_sound (D : Disj h hf) (R : Rel w (h.un hf)) (hρ : RepO w (h.un hf) ρ t) {K : AV → AHeap → Prop} (e : effStep P t h o.op K) : EffOut P w h hf ρ o K := by
  unfold effStep at e
  split at e
  · next el ho =>
    split at e
    · next z hz => exact eff_alloc D R ho hz e
    · exact e.elim
  · next el x ho => exact eff_box D R hρ ho e.1 e.2
  · next ty len parts ho =>
    split at e
    · next e0 es b0 z he =>
      split at e
      · next cells hfl => exact eff_buildSlice D R hρ ho he hfl e.1 e.2.1 e.2.2
      · exact e.elim
    · exact e.elim
  · next ty a x ho =>
    split at e
    · next b off ha =>
      split at e
      · next cs hb => exact eff_store D R hρ ho ha hb e.1 e.2.1 e.2.2.1 e.2.2.2
      · exact e.elim
    · exact e.elim
  · next ty l c ho =>
    split at e
    · next e0 es b0 z he =>
      split at e
      · next kl lv kc cv hl hc => exact eff_makeSlice D R hρ ho he hl hc e.1 e.2.1 e.2.2.1 e.2.2.2
      · exact e.elim
    · exact e.elim
  · next ty ho =>
    split at e
    · next kt et hu =>
      split at e
      · next sh hs => exact eff_makeMap D R ho e
      · exact e.elim
    · exact e.elim
  · next ty m k x ho =>
    split at e
    · next kt et hu =>
      split at e
      · next b hm =>
        split at e
        · next sh es hb =>
          have hmv := (hm ▸ hρ m : Rep w (h.un hf) (ρ m) (.map b)).inv_map
          exact eff_mapSet D R hu hb e.1 (hρ k) (hρ x) e.2.1 e.2.2 (by simp only [execOp, ho, hmv])
        · exact e.elim
      · exact e.elim
    · exact e.elim
  · next ty m k x ho =>
    split at e
    · next kt et hu =>
      split at e
      · next b hm =>
        split at e
        · next sh es hb =>
          have hmv := (hm ▸ hρ m : Rep w (h.un hf) (ρ m) (.map b)).inv_map
          exact eff_mapSet D R hu hb e.1 (hρ k) (hρ x) e.2.1 e.2.2 (by simp only [execOp, ho, hmv])
        · exact e.elim
      · exact e.elim
    · exact e.elim
  · next ty m k ok ho =>
    split at e
    · next kt et hu =>
      split at e
      · next z b hz hm =>
        split at e
        · next sh es hb => exact eff_lookup D R hρ ho hu hz hm hb e.1 e.2.1 e.2.2
        · exact e.elim
      · exact e.elim
    · exact e.elim
  · next ty x ho =>
    split at e
    · next s hu hx => exact eff_range D R hρ ho hu hx e
    · exact e.elim
  · next it ho =>
    split at e
    · next b hit =>
      split at e
      · next s pos hb => exact eff_next D R hρ ho hit hb e.1 e.2
      · exact e.elim
    · exact e.elim
  · next args argTypes ho =>
    split at e
    · next s x ts tx ha hat =>
      split at e
      · next e0 es b0 z he =>
        obtain ⟨hi, e⟩ := e
        split at e
        · next k xs hxs => exact eff_append D R hρ ho ha hat he hi hxs e
        · exact e.elim
      · exact e.elim
    · exact e.elim
  · next args argTypes ho =>
    split at e
    · next d x td tx ha hat =>
      split at e
      · next e0 es b0 z he =>
        split at e
        · next k xs b off n es' hxs hd =>
          obtain ⟨rfl, e⟩ := e
          split at e
          · next cs hb => exact eff_copy D R hρ ho ha hat he hxs hd hb e.1 e.2
          · exact e.elim
        · exact e.elim
      · exact e.elim
    · exact e.elim
  · next args argTypes ho =>
    split at e
    · next x rest ha =>
      split at e
      · next r hr =>
        have hl := hρ.list rest
        obtain ⟨v, h1, h2⟩ := minA_sound (P := P) (hρ x) hl hr
        refine ⟨v, w, r, h, .inl ?_, e, h2, D, R, .refl _ _ _⟩
        have ea : (args.map ρ).toList = ρ x :: rest.map ρ := by simp [ha]
        simp only [Bool.false_eq_true, if_false] at h1
        simp [execOp, ho, resolve, invoke, builtin, Builtin.min_, ha, h1]
      · exact e.elim
    · exact e.elim
  · next args argTypes ho =>
    split at e
    · next x rest ha =>
      split at e
      · next r hr =>
        have hl := hρ.list rest
        obtain ⟨v, h1, h2⟩ := minA_sound (P := P) (hρ x) hl hr
        refine ⟨v, w, r, h, .inl ?_, e, h2, D, R, .refl _ _ _⟩
        simp only [if_true] at h1
        simp [execOp, ho, resolve, invoke, builtin, Builtin.max_, ha, h1]
      · exact e.elim
    · exact e.elim
  · obtain ⟨v, hv, e⟩ := (onSome_iff _ _).1 e
    exact eff_pure D R hρ hv e
end
end Go.AH
