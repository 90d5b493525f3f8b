/-
  Soundness: slices of slices and strings, conversions, aggregates; all pure operations together.
-/
import Derived.Test.YtobhipohnjmnhaaAhSound2
import Derived.Laws.BytesArg
import Derived.Laws.Tables
set_option linter.unusedSimpArgs false
set_option linter.unusedVariables false
set_option linter.unusedSectionVars false
namespace Go.AH
open Go

section
variable {P : Program} {w : World} {g : AHeap}

theorem run_sliceBound {k : IntKind} {i : Int} {y : Nat} {code : BoundsCode} (h0 : 0 ≤ i) (h1 : i ≤ y) : (Instr.sliceBound (.int k i) y code).run P w = .ok i.toNat w := by
  simp only [Instr.sliceBound, Sem.run_bind, run_asIntOf, Result.andThen]
  rw [if_pos ⟨h0, h1⟩]; rfl

theorem run_sliceBounds {sl : Bool} {len cap : Nat} {lo hi : Option Value} {l h : Int} (hl : (lo = none ∧ l = 0) ∨ ∃ k, lo = some (.int k l)) (hh : (hi = none ∧ h = len) ∨ ∃ k, hi = some (.int k h))
    (c1 : 0 ≤ l) (c2 : l ≤ h) (c3 : h ≤ cap) : (Instr.sliceBounds sl len cap lo hi none).run P w = .ok (l.toNat, h.toNat, cap) w := by
  have c2' : l ≤ (h.toNat : Int) := by omega
  rcases hl with ⟨rfl, rfl⟩ | ⟨k, rfl⟩ <;> rcases hh with ⟨rfl, rfl⟩ | ⟨k', rfl⟩
  · simp [Instr.sliceBounds]
  · simp [Instr.sliceBounds, run_sliceBound (show 0 ≤ h by omega) c3]
  · simp [Instr.sliceBounds, run_sliceBound c1 c2]
  · simp [Instr.sliceBounds, run_sliceBound (show 0 ≤ h by omega) c3, run_sliceBound c1 c2']

theorem boundA_rep {d i : Int} {o : Option AV} {v : Option Value} (r : match o, v with | none, none => True | some a, some x => Rep w g x a | _, _ => False) (e : boundA d o = some i) :
    (v = none ∧ i = d) ∨ ∃ k, v = some (.int k i) := by
  cases o with
  | none => cases v with
    | none => simp only [boundA, Option.some.injEq] at e; exact .inl ⟨rfl, e.symm⟩
    | some x => exact r.elim
  | some a => cases v with
    | none => exact r.elim
    | some x =>
      cases a <;> simp [boundA] at e
      subst e
      exact .inr ⟨_, by rw [Rep.inv_int r]⟩

theorem repO {ρ : Operand → Value} {t : AF} (hρ : ∀ x, Rep w g (ρ x) (evalA t x)) (o : Option Operand) :
    match o.map (evalA t), o.map ρ with | none, none => True | some a, some x => Rep w g x a | _, _ => False := by
  cases o with
  | none => trivial
  | some x => exact hρ x

theorem sliceA_sound {t : TypeId} {x r : AV} {lo hi : Option AV} {vlo vhi : Option Value} {vx : Value} (rx : Rep w g vx x)
    (rl : match lo, vlo with | none, none => True | some a, some x => Rep w g x a | _, _ => False) (rh : match hi, vhi with | none, none => True | some a, some x => Rep w g x a | _, _ => False)
    (e : sliceA P t x lo hi = some r) : ∃ v, (Instr.slice t vx vlo vhi none).run P w = .ok v w ∧ Rep w g v r := by
  unfold sliceA at e
  split at e
  · next s hu =>
    split at e
    · next l h hl hh =>
      split at e
      · next hc =>
        cases e
        obtain ⟨b, rfl, rfl⟩ := rx.inv_str
        have e1 := boundA_rep rl hl
        have e2 := boundA_rep rh hh
        have hsz : b.data.toList.length = b.size := by simp
        rw [hsz] at hc e2
        refine ⟨.string (b.extract l.toNat h.toNat), ?_, ?_⟩
        · simp only [Instr.slice, Sem.run_bind, run_underlying' hu, Result.andThen, Option.isSome_none, Bool.false_eq_true, if_false, Sem.run_pure, run_sliceBounds e1 e2 hc.1 hc.2.1 hc.2.2]
        · have : (b.extract l.toNat h.toNat).data.toList = (b.data.toList.drop l.toNat).take (h.toNat - l.toNat) := by
            simp [List.extract_eq_take_drop]
          rw [← this]; exact .str _
      · cases e
    · cases e
  · next el hu =>
    split at e
    · next es l h hs hl hh =>
      split at e
      · next hc =>
        cases e
        obtain ⟨rfl, rfl⟩ := hc
        rw [rx.inv_nilsl]
        have e1 := boundA_rep rl hl
        have e2 := boundA_rep rh hh
        refine ⟨.slice none 0 0, ?_, .nilsl⟩
        simp [Instr.slice, run_underlying' hu, run_sliceBounds (P := P) (w := w) (sl := true) (len := 0) (cap := 0) e1 e2 (by omega) (by omega) (by omega), run_sizeOf hs]
      · cases e
    · cases e
  · next el n cells hu =>
    split at e
    · next es l h hs hl hh =>
      split at e
      · next hc =>
        obtain ⟨c1, c2, c3⟩ := hc
        cases e
        have e1 := boundA_rep rl hl
        have e2 := boundA_rep rh hh
        obtain ⟨a, c, rfl, hn⟩ := rx.inv_sl
        refine ⟨_, by simp only [Instr.slice, Sem.run_bind, run_underlying' hu, Result.andThen, run_sliceBounds (P := P) (w := w) (sl := true) (len := n) (cap := c) e1 e2 c1 c2 (by omega), run_sizeOf hs, Sem.run_pure]; rfl, ?_⟩
        by_cases hlh : l = h
        · subst hlh
          simp only [Nat.sub_self, Nat.zero_mul, List.take_zero]
          exact .sl0 _ _ _ (by omega)
        · by_cases hce : cells = []
          · subst hce
            simp only [List.drop_nil, List.take_nil]
            exact .sl0 _ _ _ (by omega)
          · obtain ⟨b, off, c', e3, hn', hb, hlt, hcl⟩ := cells_of_sl rx hce
            cases e3
            rw [if_neg (by omega)]
            simp only [Option.map_some, add_none]
            exact rep_sl (by omega) hb hlt ((hcl.drop _).take _)
      · cases e
    · cases e
  · next el b off n es' hu =>
    split at e
    · next es l h hs hl hh =>
      split at e
      · next hc =>
        obtain ⟨rfl, c1, c2, c3⟩ := hc
        have e1 := boundA_rep rl hl
        have e2 := boundA_rep rh hh
        obtain ⟨c, rfl, hn, cs, ty, fr, h1, h2⟩ := rx.inv_osl
        refine ⟨_, by simp only [Instr.slice, Sem.run_bind, run_underlying' hu, Result.andThen, run_sliceBounds (P := P) (w := w) (sl := true) (len := n) (cap := c) e1 e2 c1 c2 (by omega), run_sizeOf hs, Sem.run_pure]; rfl, ?_⟩
        split at e
        · next hor =>
          cases e
          have hb : ∀ x : Nat, x ≤ c → off + x * es + (c - x) * es = off + c * es := fun x hx => by
            rw [Nat.add_assoc, ← Nat.add_mul]; congr 2; omega
          have hle : off + l.toNat * es + (c - l.toNat) * es ≤ cs.size := by rw [hb _ (by omega)]; exact h2
          rcases hor with rfl | hlt
          · have : (if c = Int.toNat 0 then some (⟨b, off, none⟩ : Addr) else (some (⟨b, off, none⟩ : Addr)).map (·.add (Int.toNat 0 * es))) = some ⟨b, off + Int.toNat 0 * es, none⟩ := by
              split <;> simp [add_none]
            rw [this]
            exact .osl (by omega) ⟨cs, ty, fr, h1, hle⟩
          · rw [if_neg (by omega)]
            simp only [Option.map_some, add_none]
            exact .osl (by omega) ⟨cs, ty, fr, h1, hle⟩
        · next hor =>
          cases e
          have : h.toNat - l.toNat = 0 := by omega
          rw [this]
          exact .sl0 _ _ _ (by omega)
      · cases e
    · cases e
  · cases e

theorem bytesOf_some : ∀ {cells : List AV} {bs : List UInt8}, bytesOf cells = some bs → ∃ ns : List Int, cells = ns.map (AV.int .u8) ∧ bs = ns.map (fun n => UInt8.ofNat n.toNat)
  | [], bs, e => by simp only [bytesOf, Option.some.injEq] at e; exact ⟨[], rfl, e.symm⟩
  | a :: as, bs, e => by
    simp only [bytesOf] at e
    split at e
    · next b bs' hb hbs =>
      simp only [Option.some.injEq] at e
      obtain ⟨ns, h1, h2⟩ := bytesOf_some hbs
      unfold byteOf at hb
      split at hb
      · next n => simp only [Option.some.injEq] at hb; exact ⟨n :: ns, by simp [h1], by simp [← e, ← hb, h2]⟩
      · cases hb
    · cases e

theorem run_bytes_of {src dst el : TypeId} (hs : P.underlying src = some (.slice el)) (he : P.underlying el = some (.int .u8)) (hd : P.underlying dst = some .string) {b off n c : Nat}
    {cells : List AV} (hcl : Cells w g b off cells) (hn : n = cells.length) {bs : List UInt8} (e : bytesOf cells = some bs) :
    ∃ v, (convert src dst (.slice (some ⟨b, off, none⟩) n c)).run P w = .ok v w ∧ Rep w g v (.str bs) := by
  obtain ⟨ns, rfl, rfl⟩ := bytesOf_some e
  obtain ⟨ho, vs, h1, h2⟩ := hcl
  refine ⟨_, run_convert_bytes_arg w src el hs he b off n c ns (by simpa using hn.symm) (fun i hi => ?_) dst hd, ?_⟩
  · have hi' : i < (ns.map (AV.int .u8)).length := by omega
    have hi2 : i < ns.length := by simpa using hi'
    rw [h1 i hi']
    have := (by simpa using h2 i hi' : Rep w g (vs i) (.int .u8 ns[i])).inv_int
    rw [this]; simp [hi2]
  · rw [← strOfNums_data]; exact .str _

theorem convA_sound (R : Rel w g) {h : AHeap} (hsub : ∀ b c, h b = some c → g b = some c) {src dst : TypeId} {x r : AV} {vx : Value} (rx : Rep w g vx x) (e : convA P h src dst x = some r) :
    ∃ v, (convert src dst vx).run P w = .ok v w ∧ Rep w g v r := by
  unfold convA at e
  split at e
  · next d k k' n hs hd => cases e; rw [rx.inv_int]; exact ⟨_, by simp [convert, run_underlying' hs, run_underlying' hd, Conv.intToInt], .int _ _⟩
  · next d s hs hd => cases e; obtain ⟨b, rfl, rfl⟩ := rx.inv_str; exact ⟨_, by simp [convert, run_underlying' hs, run_underlying' hd], .str _⟩
  · next d k n hs hd => cases e; rw [rx.inv_int]; exact ⟨_, by simp [convert, run_underlying' hs, run_underlying' hd, Conv.intToString], .str _⟩
  · rename_i x el hs hd _ _
    split at e
    · rename_i n cells he _ _
      split at e
      · next hn =>
        cases hb : bytesOf cells with
        | none => rw [hb] at e; cases e
        | some bs =>
          rw [hb] at e; simp only [Option.map_some, Option.some.injEq] at e; subst e
          by_cases hne : cells = []
          · subst hne
            simp only [bytesOf, Option.some.injEq] at hb
            subst hb; subst hn
            obtain ⟨a, c, rfl, _⟩ := rx.inv_sl
            refine ⟨.string ByteArray.empty, ?_, .str _⟩
            cases a with
            | none => exact run_convert_bytes_nil w src el hs he 0 c dst hd
            | some a =>
              rw [run_convert_bytes_string w src dst el _ _ c hs he hd]
              simp [Conv.bytesToString, loadCells, loadCellsFrom]
          · obtain ⟨b, off, c, rfl, _, _, _, hcl⟩ := cells_of_sl rx hne
            exact run_bytes_of hs he hd hcl hn hb
      · cases e
    · rename_i b off n es he _ _
      split at e
      · next hes =>
        subst hes
        split at e
        · next cells hc =>
          cases hb : bytesOf cells with
          | none => rw [hb] at e; cases e
          | some bs =>
            rw [hb] at e; simp only [Option.map_some, Option.some.injEq] at e; subst e
            obtain ⟨c, rfl, hn, _⟩ := rx.inv_osl
            simp only [cellsOfSlice] at hc
            · split at hc
              · next cs hcs =>
                split at hc
                · next hle =>
                  simp only [Option.some.injEq] at hc
                  subst hc
                  have hcl := ((Rel.cells R (hsub _ _ hcs)).drop off).take (n * 1)
                  rw [Nat.zero_add] at hcl
                  exact run_bytes_of hs he hd hcl (by simp; omega) hb
                · cases hc
              · cases hc
        · cases e
      · cases e
    · rename_i he _ _
      cases e
      rw [rx.inv_nilsl]
      exact ⟨_, run_convert_bytes_nil w src el hs he 0 0 dst hd, .str _⟩
    · cases e
  · cases e

theorem Rep.fitOk {v : Value} {a : AV} (r : Rep w g v a) (hf : a.fit = true) : v.cells.toList.length = a.cells.length := (r.cells hf).1.1

theorem zeroT_sound {t : TypeId} {z : List AV} (e : zeroT P t = some z) : ∃ v, (zeroValue t).run P w = .ok v w ∧ RepL w g v.cells.toList z ∧ ∀ x ∈ z, x.one = true := by
  unfold zeroT at e
  cases hi : P.info? t with
  | none => simp [hi] at e
  | some i =>
    simp only [hi, Option.bind_some] at e
    split at e
    · next v hz =>
      split at e
      · cases e
      · next a hne hx =>
        simp only [Option.some.injEq] at e
        subst e
        have r := cval_rep (w := w) (g := g) v
        have hf : (cval v).fit = true := by
          have h1 : cval v ≠ .undef := hx
          have h2 : ∀ l, cval v ≠ .tup l := by
            intro l; unfold cval; split
            · split <;> simp
            · unfold sval; split <;> simp
          revert h1 h2; cases cval v <;> simp [AV.fit]
        exact ⟨v, by simp [zeroValue, typeInfo, hi, hz], (r.cells hf).1, (r.cells hf).2⟩
    · cases e

theorem set_foldl (cs : List Value) : ∀ (l : Array Value) (off : Nat), off + cs.length ≤ l.size →
    ((cs.zipIdx.foldl (fun (acc : Array Value) (p : Value × Nat) => acc.setIfInBounds (off + p.2) p.1) l).toList = l.toList.take off ++ cs ++ l.toList.drop (off + cs.length)) := by
  have key : ∀ (cs : List Value) (k : Nat) (l : Array Value) (off : Nat), off + k + cs.length ≤ l.size →
      (((cs.zipIdx k).foldl (fun (acc : Array Value) (p : Value × Nat) => acc.setIfInBounds (off + p.2) p.1) l).toList = l.toList.take (off + k) ++ cs ++ l.toList.drop (off + k + cs.length)) := by
    intro cs
    induction cs with
    | nil => intro k l off h; simp
    | cons c cs ih =>
      intro k l off h
      simp only [List.length_cons] at h
      simp only [List.zipIdx_cons, List.foldl_cons]
      rw [ih (k + 1) (l.setIfInBounds (off + k) c) off (by simp; omega)]
      have hlt : off + k < l.toList.length := by simp; omega
      simp only [Array.toList_setIfInBounds, List.length_cons]
      rw [show off + (k + 1) = off + k + 1 from by omega, show off + k + (cs.length + 1) = off + k + 1 + cs.length from by omega]
      rw [List.drop_set_of_lt (by omega), List.set_eq_take_append_cons_drop, if_pos hlt, List.take_append]
      have hlen : (l.toList.take (off + k)).length = off + k := by simp; omega
      rw [hlen, show off + k + 1 - (off + k) = 1 from by omega, List.take_of_length_le (by omega)]
      simp [List.append_assoc]
  intro l off h
  exact key cs 0 l off (by simpa using h)

theorem RepL.take {vs : List Value} {as : List AV} (r : RepL w g vs as) (k : Nat) : RepL w g (vs.take k) (as.take k) :=
  ⟨by simp [r.1], fun i hi hj => by simp only [List.getElem_take]; exact r.2 i _ _⟩
theorem RepL.drop {vs : List Value} {as : List AV} (r : RepL w g vs as) (k : Nat) : RepL w g (vs.drop k) (as.drop k) :=
  ⟨by simp [r.1], fun i hi hj => by simp only [List.getElem_drop]; exact r.2 _ _ _⟩

/-- Places and values, pair by pair. -/
def RepP (w : World) (g : AHeap) (vs : List (Nat × Value)) (as : List (Nat × AV)) : Prop :=
  vs.map (·.1) = as.map (·.1) ∧ RepL w g (vs.map (·.2)) (as.map (·.2))

theorem fillA_sound {pl pl' : Nat → Option (Nat × Nat)} (hp : ∀ i x, pl i = some x → pl' i = some x) : ∀ (as : List (Nat × AV)) (vs : List (Nat × Value)) (z : List AV) (zs : Array Value) (r : List AV), RepP w g vs as →
    RepL w g zs.toList z → (∀ x ∈ z, x.one = true) → fillA pl z as = some r → ∃ cs, Instr.fill pl' zs vs = some cs ∧ RepL w g cs.toList r ∧ ∀ x ∈ r, x.one = true
  | [], vs, z, zs, r, hr, hz, ho, e => by
    have : vs = [] := by simpa using hr.1
    subst this
    simp only [fillA, Option.some.injEq] at e
    subst e
    exact ⟨zs, rfl, hz, ho⟩
  | (i, a) :: as, vs, z, zs, r, hr, hz, ho, e => by
    obtain ⟨h1, h2⟩ := hr
    cases vs with
    | nil => simp at h1
    | cons p vs =>
      obtain ⟨i', v⟩ := p
      simp only [List.map_cons, List.cons.injEq] at h1
      obtain ⟨rfl, h1⟩ := h1
      obtain ⟨_, _, e1, r1, r2⟩ := (show RepL w g (v :: vs.map (·.2)) (a :: as.map (·.2)) from h2).uncons
      cases e1
      simp only [fillA] at e
      split at e
      · cases e
      · next off size hpl =>
        split at e
        · next hc =>
          obtain ⟨c1, c2, c3⟩ := hc
          obtain ⟨rc, oc⟩ := r1.cells c3
          have hvl : v.cells.size = a.cells.length := by have := rc.1; simpa using this
          have hzl : zs.size = z.length := by have := hz.1; simpa using this
          have hfold : (v.cells.zipIdx.foldl (fun (cs : Array Value) (p : Value × Nat) => cs.setIfInBounds (off + p.2) p.1) zs).toList = zs.toList.take off ++ v.cells.toList ++ zs.toList.drop (off + v.cells.size) := by
            rw [← Array.foldl_toList, Array.toList_zipIdx]
            have := set_foldl v.cells.toList zs off (by simp; omega)
            simpa using this
          have hz' : RepL w g (v.cells.zipIdx.foldl (fun (cs : Array Value) (p : Value × Nat) => cs.setIfInBounds (off + p.2) p.1) zs).toList (splice z off a.cells) := by
            rw [hfold]
            unfold splice
            rw [hvl]
            exact ((hz.take off).append rc).append (hz.drop _)
          have ho' : ∀ x ∈ splice z off a.cells, x.one = true := by
            intro x hx
            simp only [splice, List.mem_append] at hx
            rcases hx with (hx | hx) | hx
            · exact ho x (List.mem_of_mem_take hx)
            · exact oc x hx
            · exact ho x (List.mem_of_mem_drop hx)
          obtain ⟨cs, h3, h4, h5⟩ := fillA_sound hp as vs _ _ r ⟨h1, r2⟩ hz' ho' e
          refine ⟨cs, ?_, h4, h5⟩
          simp only [Instr.fill, hp _ _ hpl]
          rw [if_neg (by simp; omega)]
          exact h3
        · cases e

theorem buildA_sound {t : TypeId} {as : List (Nat × AV)} {vs : Array (Nat × Value)} {r : AV} (rp : RepP w g vs.toList as) (e : buildA P t as = some r) :
    ∃ v, (Instr.build t vs).run P w = .ok v w ∧ Rep w g v r := by
  unfold buildA at e
  split at e
  · next z pl hz hpl =>
    cases hf : fillA (fun i => pl[i]?) z as with
    | none => rw [hf] at e; cases e
    | some cells =>
      rw [hf] at e
      simp only [Option.map_some, Option.some.injEq] at e
      subst e
      unfold zeroT at hz
      cases hi : P.info? t with
      | none => simp [hi] at hz
      | some it =>
        cases hzv : it.zero with
        | none => simp [hi, hzv] at hz
        | some zv =>
          obtain ⟨zv', e1, rz, oz⟩ := zeroT_sound (P := P) (w := w) (g := g) (t := t) (z := z) hz
          have : zv' = zv := by
            simp [zeroValue, typeInfo, hi, hzv] at e1
            exact e1.symm
          subst this
          unfold placesL at hpl
          cases hu : P.underlying t with
          | none => simp [hu] at hpl
          | some d =>
            cases d <;> try (simp [hu] at hpl; done)
            case array n el =>
              cases hie : P.info? el with
              | none => simp [hu, hie] at hpl
              | some ie =>
                simp only [hu, hie, Option.map_some, Option.some.injEq] at hpl
                subst hpl
                obtain ⟨cs, h3, h4, h5⟩ := fillA_sound (pl' := fun i => some (i * ie.size, ie.size)) (by
                  intro i x hx
                  obtain ⟨hlt, hx'⟩ := List.getElem?_eq_some_iff.1 hx
                  simp at hx'
                  exact congrArg some hx') as vs.toList z zv'.cells cells rp rz oz hf
                refine ⟨.agg cs, run_build w t vs cs (by simp only [Program.built, hi, hu, hzv, hie]; exact h3), ?_⟩
                have := rep_agg h4.1 h5 h4.2
                simpa using this
            case struct fields =>
              simp only [hu] at hpl
              obtain ⟨cs, h3, h4, h5⟩ := fillA_sound (pl' := fun i => pl.toArray[i]?) (by intro i x hx; simpa using hx) as vs.toList z zv'.cells cells rp rz oz hf
              refine ⟨.agg cs, run_build w t vs cs (by simp only [Program.built, hi, hu, hzv, hpl]; exact h3), ?_⟩
              have := rep_agg h4.1 h5 h4.2
              simpa using this
  · cases e

/-- What the operands stand for. -/
def RepO (w : World) (g : AHeap) (ρ : Operand → Value) (t : AF) : Prop := ∀ x, Rep w g (ρ x) (evalA t x)

theorem RepO.list {ρ : Operand → Value} {t : AF} (hρ : RepO w g ρ t) (xs : List Operand) : RepL w g (xs.map ρ) (xs.map (evalA t)) :=
  ⟨by simp, fun i hi hj => by simp only [List.getElem_map]; exact hρ _⟩

theorem RepO.parts {ρ : Operand → Value} {t : AF} (hρ : RepO w g ρ t) (ps : Array (Nat × Operand)) :
    RepP w g (ps.map fun (i, x) => (i, ρ x)).toList (ps.toList.map fun p => (p.1, evalA t p.2)) := by
  refine ⟨by simp [Function.comp_def], ?_⟩
  have := hρ.list (ps.toList.map (·.2))
  simpa [Function.comp_def] using this

theorem pureA_sound (R : Rel w g) {h : AHeap} (hsub : ∀ b c, h b = some c → g b = some c) {ρ : Operand → Value} {t : AF} (hρ : RepO w g ρ t) {o : Oper} {r : AV} (e : pureA P t h o.op = some r) :
    ∃ v, (execOp ρ o).run P w = .ok (.value v) w ∧ Rep w g v r := by
  unfold pureA at e
  unfold execOp
  split at e
  · next x hop => cases e; rw [hop]; exact ⟨_, rfl, hρ x⟩
  · next x hop => cases e; rw [hop]; exact ⟨_, rfl, hρ x⟩
  · next c a b hop =>
    rw [hop]
    split at e
    · next x hc =>
      cases e
      have := (hc ▸ hρ c : Rep w g (ρ c) (.bool x)).inv_bool
      refine ⟨if x then ρ a else ρ b, by simp [this, asBool], ?_⟩
      cases x
      · exact hρ b
      · exact hρ a
    · cases e
  · next ty a hop =>
    rw [hop]
    split at e
    · next b off hc =>
      have := (hc ▸ hρ a : Rep w g (ρ a) (.ptr b off)).inv_ptr
      split at e
      · next cs hcs =>
        have hcl := (Rel.cells R (hsub _ _ hcs)).drop off
        rw [Nat.zero_add] at hcl
        obtain ⟨v, h1, h2⟩ := run_loadVar (P := P) hcl e
        exact ⟨v, by simp [this, Instr.loadAt, Instr.sureAddr, h1], h2⟩
      · cases e
    · next cells hc =>
      obtain ⟨b, off, h0, _, _, hcl⟩ := cells_of_fptr (hc ▸ hρ a : Rep w g (ρ a) (.fptr cells))
      obtain ⟨v, h1, h2⟩ := run_loadVar (P := P) hcl e
      exact ⟨v, by simp [h0, Instr.loadAt, Instr.sureAddr, h1], h2⟩
    · cases e
  · next x hop =>
    rw [hop]
    split at e
    · next b off hc =>
      cases e
      have := (hc ▸ hρ x : Rep w g (ρ x) (.ptr b off)).inv_ptr
      exact ⟨_, by simp [this], .ptr _ _⟩
    · next cells hc =>
      cases e
      have rx := (hc ▸ hρ x : Rep w g (ρ x) (.fptr cells))
      obtain ⟨b, off, h0, _⟩ := cells_of_fptr rx
      rw [h0] at rx
      exact ⟨_, by simp [h0], rx⟩
    · cases e
  · next op ty x y ty2 hop =>
    rw [hop]
    obtain ⟨v, h1, h2⟩ := binA_sound (P := P) x y (hρ x) (hρ y) e
    exact ⟨v, by simp only [Sem.run_bind] at h1 ⊢; rw [h1]; rfl, h2⟩
  · next op ty x hop =>
    rw [hop]
    obtain ⟨v, h1, h2⟩ := unA_sound (P := P) (hρ x) e
    exact ⟨v, by simp [h1], h2⟩
  · next s d x hop =>
    rw [hop]
    obtain ⟨v, h1, h2⟩ := convA_sound (P := P) R hsub (hρ x) e
    exact ⟨v, by simp [h1], h2⟩
  · next ty x hop =>
    rw [hop]
    split at e
    · cases e
    · next d hni hu =>
      cases e
      refine ⟨.iface ty (ρ x), ?_, .iface (hρ x)⟩
      have : (Instr.makeInterface ty (ρ x)).run P w = .ok (.iface ty (ρ x)) w := by
        simp only [Instr.makeInterface, Sem.run_bind, run_underlying' hu, Result.andThen]
        rfl
      simp [this]
    · cases e
  · next f first caps hop =>
    rw [hop]
    cases e
    refine ⟨.func f (first.map ρ) (caps.map ρ), by simp [Instr.makeFunc], ?_⟩
    have h1 := hρ.list first.toList
    have h2 := hρ.list caps.toList
    have := Rep.fn (f := f) h1.1 h2.1 h1.2 h2.2
    have e1 : first.map ρ = (first.toList.map ρ).toArray := by apply Array.toList_inj.1; simp
    have e2 : caps.map ρ = (caps.toList.map ρ).toArray := by apply Array.toList_inj.1; simp
    rw [e1, e2]; exact this
  · next ty x lo hi hop =>
    rw [hop]
    split at e
    · cases e
    · next hna =>
      obtain ⟨v, h1, h2⟩ := sliceA_sound (P := P) (hρ x) (repO hρ lo) (repO hρ hi) e
      refine ⟨v, ?_, h2⟩
      have : (Instr.sliceAt ty (ρ x) (lo.map ρ) (hi.map ρ) none).run P w = .ok v w := by
        cases hu : P.underlying ty with
        | none => unfold sliceA at e; simp [hu] at e
        | some d =>
          simp only [Instr.sliceAt, Sem.run_bind, run_underlying' hu, Result.andThen]
          split
          · exact absurd hu (hna _ _)
          · exact h1
      simp [this]
  · next s x f hop =>
    rw [hop]
    obtain ⟨v, h1, h2⟩ := fieldAddrA_sound (P := P) (hρ x) e
    exact ⟨v, by simp [h1], h2⟩
  · next s x f hop =>
    rw [hop]
    obtain ⟨v, h1, h2⟩ := fieldA_sound (P := P) (hρ x) e
    exact ⟨v, by simp [h1], h2⟩
  · next ty x i hop =>
    rw [hop]
    obtain ⟨v, h1, h2⟩ := indexAddrA_sound (P := P) (hρ x) (hρ i) e
    exact ⟨v, by simp [h1], h2⟩
  · next ty x i hop =>
    rw [hop]
    obtain ⟨v, h1, h2⟩ := indexA_sound (P := P) (hρ x) (hρ i) e
    exact ⟨v, by simp [h1], h2⟩
  · next x i hop =>
    rw [hop]
    split at e
    · next vs hc =>
      obtain ⟨us, h0, h1, h2⟩ := (hc ▸ hρ x : Rep w g (ρ x) (.tup vs)).inv_tup
      obtain ⟨hi, rfl⟩ := List.getElem?_eq_some_iff.1 e
      have hi' : i < us.length := by omega
      exact ⟨us[i], by simp [h0, Instr.extract, hi'], h2 i hi' hi⟩
    · cases e
  · next ty parts hop =>
    rw [hop]
    obtain ⟨v, h1, h2⟩ := buildA_sound (P := P) (hρ.parts parts) e
    exact ⟨v, by simp [h1], h2⟩
  · next args argTypes hop =>
    rw [hop]
    split at e
    · next x ty ha ht =>
      have ht' : argTypes[0]? = some ty := by
        have : argTypes = #[ty] := by cases argTypes; simpa using ht
        simp [this]
      have ha' : args = #[x] := by cases args; simpa using ha
      obtain ⟨v, h1, h2⟩ := lenA_sound (P := P) R hsub argTypes o.type ht' (hρ x) e
      exact ⟨v, by subst ha'; simp [resolve, invoke, builtin, h1], h2⟩
    · cases e
  · cases e
end
end Go.AH
