/-
  Names for blocks: what an operation gives on names, it gives on blocks.
-/
import Derived.Test.YtkdhgablioljnaaAhX
set_option linter.unusedSimpArgs false
set_option linter.unusedVariables false
set_option linter.unusedSectionVars false
namespace Go.AH
open Go

/-- A block for each name, where its cells begin there, a loop's record and frame; names below lo are kept as g tells. -/
structure Rn where
  b : Nat → Nat
  p : Nat → List AV
  r : Nat → Loop × AF
  lo : Nat
  g : Nat → XC

/-- Where the cells begin: behind what is not told of. -/
def Rn.s (ρ : Rn) (i : Nat) : Nat := (ρ.p i).length
mutual
def ren (ρ : Rn) : AV → AV
  | .sl n cs => .sl n (renL ρ cs)
  | .osl b off n es => .osl (ρ.b b) (off + ρ.s b) n es
  | .ptr b off => .ptr (ρ.b b) (off + ρ.s b)
  | .fptr cs => .fptr (renL ρ cs)
  | .map b => .map (ρ.b b)
  | .fn f fa ca => .fn (match f with | .yield l => .yield (ρ.b l) | f => f) (renL ρ fa) (renL ρ ca)
  | .iface t v => .iface t (ren ρ v)
  | .agg cs => .agg (renL ρ cs)
  | .tup vs => .tup (renL ρ vs)
  | .undef => .undef
  | .bool b => .bool b
  | .int k n => .int k n
  | .str s => .str s
  | .nilsl => .nilsl
  | .nilptr => .nilptr
  | .nilmap => .nilmap
  | .nilfn => .nilfn
  | .nilif => .nilif
def renL (ρ : Rn) : List AV → List AV
  | [] => []
  | a :: as => ren ρ a :: renL ρ as
end

section
variable {P : Program} {ρ ρ' : Rn} {t : AF} {h H : AHeap}

@[simp] theorem renL_eq (l : List AV) : renL ρ l = l.map (ren ρ) := by
  induction l with
  | nil => rfl
  | cons a as ih => simp [renL, ih]

@[simp] theorem ren_cells (v : AV) : (ren ρ v).cells = v.cells.map (ren ρ) := by cases v <;> simp [ren, AV.cells]
@[simp] theorem ren_fit (v : AV) : (ren ρ v).fit = v.fit := by cases v <;> simp [ren, AV.fit]
@[simp] theorem ren_one (v : AV) : (ren ρ v).one = v.one := by cases v <;> simp [ren, AV.one]

theorem ren_sval (v : Value) : ren ρ (sval v) = sval v := by
  unfold sval
  split <;> simp [ren]
theorem ren_cval (v : Value) : ren ρ (cval v) = cval v := by
  unfold cval
  split
  · split
    · simp [ren, ren_sval]
    · simp [ren]
  · exact ren_sval _

def renF (ρ : Rn) (t : AF) : AF := fun i => ren ρ (t i)
@[simp] theorem evalA_ren (x : Operand) : evalA (renF ρ t) x = ren ρ (evalA t x) := by
  cases x <;> simp [evalA, renF, ren, ren_cval]

theorem zeroT_ren {e : TypeId} {z : List AV} (hz : zeroT P e = some z) : z.map (ren ρ) = z := by
  unfold zeroT at hz
  split at hz
  · next v _ =>
    split at hz
    · cases hz
    · next a hne => cases hz; rw [← ren_cells, ren_cval]
  · cases hz
theorem zeroV_ren {e : TypeId} {z : AV} (hz : zeroV P e = some z) : ren ρ z = z := by
  unfold zeroV at hz
  split at hz
  · next v _ =>
    split at hz
    · cases hz
    · next a hne => cases hz; rw [ren_cval]
  · cases hz

@[simp] theorem loadC_ren (a : Bool) (s : Nat) (cs : List AV) : loadC a s (cs.map (ren ρ)) = (loadC a s cs).map (ren ρ) := by
  unfold loadC
  cases a
  · cases cs <;> simp
  · by_cases hs : s ≤ cs.length <;> simp [hs, ren, List.map_take]
@[simp] theorem loadA_ren (ty : TypeId) (cs : List AV) : loadA P ty (cs.map (ren ρ)) = (loadA P ty cs).map (ren ρ) := by
  unfold loadA
  split <;> simp

/-- The heap of names and the heap of blocks. -/
structure HR (ρ : Rn) (h H : AHeap) : Prop where
  cells : ∀ b cs, h b = some (.cells cs) → ∃ pre : List AV, pre.length = ρ.s b ∧ H (ρ.b b) = some (.cells (pre ++ cs.map (ren ρ)))
  map : ∀ b sh es, h b = some (.map sh es) → ρ.s b = 0 ∧ H (ρ.b b) = some (.map sh (es.map fun e => (ren ρ e.1, ren ρ e.2)))
  sit : ∀ b s p, h b = some (.sit s p) → ρ.s b = 0 ∧ H (ρ.b b) = some (.sit s p)

theorem drop_pre {pre l : List AV} {off s : Nat} (hp : pre.length = s) : (pre ++ l).drop (off + s) = l.drop off := by
  rw [List.drop_append, List.drop_of_length_le (by omega)]
  simp [hp]

theorem eqlA_ren {ty : TypeId} {x y : AV} {b : Bool} (e : eqlA P ty x y = some b) : eqlA P ty (ren ρ x) (ren ρ y) = some b := by
  unfold eqlA at e
  split at e
  all_goals first
    | (cases e; done)
    | (simp only [ren, renL, eqlA, *]; done)
    | (simp only [ren, renL, eqlA, *]; exact e)

theorem cmpA_ren {op : BinOp} {a b : Int} {v : AV} (e : cmpA op a b = some v) : ren ρ v = v := by
  unfold cmpA at e
  split at e <;> cases e <;> simp [ren]
theorem intA_ren {op : BinOp} {k : IntKind} {a b : Int} {v : AV} (e : intA op k a b = some v) : ren ρ v = v := by
  unfold intA at e
  split at e
  all_goals first
    | exact cmpA_ren e
    | (cases e; simp [ren]; done)
    | (split at e <;> cases e; simp [ren])
theorem strA_ren {op : BinOp} {a b : List UInt8} {v : AV} (e : strA op a b = some v) : ren ρ v = v := by
  unfold strA at e
  split at e
  all_goals first
    | (cases e; done)
    | (cases e; simp [ren]; done)
    | (split at e <;> cases e; simp [ren])

theorem intsEq_ren {k : IntKind} : ∀ {as bs : List AV} {b : Bool}, intsEq k as bs = some b → intsEq k (as.map (ren ρ)) (bs.map (ren ρ)) = some b
  | [], [], _, e => e
  | a :: as, c :: bs, b, e => by
    unfold intsEq at e
    split at e
    · next h _ => cases h
    · next h1 h2 =>
      cases h1; cases h2
      split at e
      · next hk =>
        obtain ⟨r, hr, rfl⟩ := Option.map_eq_some_iff.1 e
        simp only [List.map_cons, ren, intsEq, if_pos hk, intsEq_ren hr, Option.map_some]
      · cases e
    · cases e
  | [], _ :: _, _, e => by simp [intsEq] at e
  | _ :: _, [], _, e => by unfold intsEq at e; split at e <;> first | (next h _ => cases h) | (next _ h => cases h) | cases e
theorem aggA_ren {op : BinOp} {ty : TypeId} {as bs : List AV} {v : AV} (e : aggA P op ty as bs = some v) : aggA P op ty (as.map (ren ρ)) (bs.map (ren ρ)) = some (ren ρ v) := by
  unfold aggA at e ⊢
  split at e
  · next n k ht =>
    split at e
    · next hl =>
      rw [if_pos (by simpa using hl)]
      split at e
      · obtain ⟨b, hb, rfl⟩ := Option.map_eq_some_iff.1 e
        simp only [intsEq_ren hb, Option.map_some, ren]
      · obtain ⟨b, hb, rfl⟩ := Option.map_eq_some_iff.1 e
        simp only [intsEq_ren hb, Option.map_some, ren]
      · cases e
    · cases e
  · cases e
theorem binA_ren {op : BinOp} {ty : TypeId} {x y v : AV} (e : binA P op ty x y = some v) : binA P op ty (ren ρ x) (ren ρ y) = some (ren ρ v) := by
  unfold binA at e
  split at e
  · next k a k' b =>
    simp only [ren, binA]
    split at e
    · split at e <;> cases e; simp [ren, *]
    · split at e <;> cases e; simp [ren, *]
    · next h1 h2 =>
      split at e
      · next hk => rw [if_pos hk, intA_ren e]; exact e
      · cases e
  · next a b => simp only [ren, binA]; rw [strA_ren e]; exact e
  · next as bs => simp only [ren, renL_eq, binA]; exact aggA_ren e
  · next n1 n2 n3 =>
    have key : ∀ b, eqlA P ty x y = some b → (binA P .eql ty (ren ρ x) (ren ρ y) = some (.bool b) ∧ binA P .neq ty (ren ρ x) (ren ρ y) = some (.bool (!b))) := by
      intro b hb
      have q := eqlA_ren (ρ := ρ) hb
      unfold binA
      constructor
      · split
        · next hx hy => exact absurd hb (by cases x <;> simp [ren] at hx; cases y <;> simp [ren] at hy; exact absurd rfl (n1 _ _ _ _ rfl))
        · next hx hy => exact absurd hb (by cases x <;> simp [ren] at hx; cases y <;> simp [ren] at hy; exact absurd rfl (n2 _ _ rfl))
        · next hx hy => exact absurd hb (by cases x <;> simp [ren] at hx; cases y <;> simp [ren] at hy; exact absurd rfl (n3 _ _ rfl))
        · rw [q]; rfl
      · split
        · next hx hy => exact absurd hb (by cases x <;> simp [ren] at hx; cases y <;> simp [ren] at hy; exact absurd rfl (n1 _ _ _ _ rfl))
        · next hx hy => exact absurd hb (by cases x <;> simp [ren] at hx; cases y <;> simp [ren] at hy; exact absurd rfl (n2 _ _ rfl))
        · next hx hy => exact absurd hb (by cases x <;> simp [ren] at hx; cases y <;> simp [ren] at hy; exact absurd rfl (n3 _ _ rfl))
        · rw [q]; rfl
    split at e
    · cases hb : eqlA P ty x y with
      | none => rw [hb] at e; cases e
      | some b => rw [hb] at e; cases e; exact (key b hb).1
    · cases hb : eqlA P ty x y with
      | none => rw [hb] at e; cases e
      | some b => rw [hb] at e; cases e; exact (key b hb).2
    · cases e

theorem unA_ren {op : UnOp} {x v : AV} (e : unA op x = some v) : unA op (ren ρ x) = some (ren ρ v) := by
  unfold unA at e
  split at e
  · cases e; simp [ren, unA]
  · cases e; simp [ren, unA]
  · simp only [ren, unA]; rw [intA_ren e]; exact e
  · cases e

theorem indexAddrA_ren {ty : TypeId} {x i v : AV} (e : indexAddrA P ty x i = some v) : indexAddrA P ty (ren ρ x) (ren ρ i) = some (ren ρ v) := by
  unfold indexAddrA at e
  split at e
  · next k n =>
    split at e
    all_goals first
      | (cases e; done)
      | (split at e
         · next es hes =>
           split at e
           · next hc => cases e; simp only [ren, indexAddrA, renL_eq, *]; simp_all [ren, List.map_drop, Nat.add_right_comm]
           · cases e
         · cases e)
  · cases e

theorem partA_ren (ty : TypeId) (cs : List AV) (off : Nat) : partA P ty (cs.map (ren ρ)) off = (partA P ty cs off).map (ren ρ) := by
  unfold partA; rw [← List.map_drop, loadA_ren]

theorem indexA_ren {ty : TypeId} {x i v : AV} (e : indexA P ty x i = some v) : indexA P ty (ren ρ x) (ren ρ i) = some (ren ρ v) := by
  unfold indexA at e
  split at e
  · next k n =>
    split at e
    · next len el cells hu =>
      split at e
      · next es hes =>
        split at e
        · next hc => simp only [ren, indexA, renL_eq, hu, hes, if_pos hc, partA_ren, e, Option.map_some]
        · cases e
      · cases e
    · next s hu =>
      split at e
      · next hc =>
        simp only [ren, indexA, hu, if_pos hc]
        cases hs : s[n.toNat]? with
        | none => rw [hs] at e; cases e
        | some b => rw [hs] at e; cases e; rfl
      · cases e
    · cases e
  · cases e

theorem fieldAddrA_ren {s : TypeId} {x v : AV} {f : Nat} (e : fieldAddrA P s x f = some v) : fieldAddrA P s (ren ρ x) f = some (ren ρ v) := by
  unfold fieldAddrA at e
  split at e
  · next off ft hf =>
    split at e
    · next n hn =>
      split at e
      · cases e
      · next h0 =>
        split at e
        · cases e; simp [ren, fieldAddrA, hf, hn, h0, Nat.add_right_comm]
        · cases e; simp [ren, fieldAddrA, hf, hn, h0, List.map_drop]
        · cases e
    · cases e
  · cases e

theorem fieldA_ren {s : TypeId} {x v : AV} {f : Nat} (e : fieldA P s x f = some v) : fieldA P s (ren ρ x) f = some (ren ρ v) := by
  unfold fieldA at e
  split at e
  · next off ft cells hf => simp only [ren, fieldA, renL_eq, hf, partA_ren, e, Option.map_some]
  · cases e

theorem lenA_ren {ty : TypeId} {x v : AV} (R : HR ρ h H) (e : lenA P h ty x = some v) : lenA P H ty (ren ρ x) = some (ren ρ v) := by
  unfold lenA at e
  split at e
  all_goals first
    | (cases e; simp only [ren, lenA, *]; done)
    | (cases e; done)
    | skip
  · next b hu =>
    split at e
    · next sh es hb =>
      cases e
      simp only [ren, lenA, hu, (R.map _ _ _ hb).2, List.length_map]
    · cases e

theorem boundA_ren {d : Int} {o : Option AV} {n : Int} (e : boundA d o = some n) : boundA d (o.map (ren ρ)) = some n := by
  unfold boundA at e
  split at e
  · exact e
  · simpa [ren, boundA] using e
  · cases e

theorem sliceA_ren {ty : TypeId} {x v : AV} {lo hi : Option AV} (e : sliceA P ty x lo hi = some v) : sliceA P ty (ren ρ x) (lo.map (ren ρ)) (hi.map (ren ρ)) = some (ren ρ v) := by
  unfold sliceA at e
  split at e
  · next s hu =>
    split at e
    · next l u hl hh =>
      split at e
      · next hc => cases e; simp only [ren, sliceA, hu, boundA_ren hl, boundA_ren hh, if_pos hc]
      · cases e
    · cases e
  · next el hu =>
    split at e
    · next es l u hes hl hh =>
      split at e
      · next hc => cases e; simp only [ren, sliceA, hu, hes, boundA_ren hl, boundA_ren hh, if_pos hc]
      · cases e
    · cases e
  · next el n cells hu =>
    split at e
    · next es l u hes hl hh =>
      split at e
      · next hc => cases e; simp only [ren, sliceA, hu, hes, boundA_ren hl, boundA_ren hh, if_pos hc, renL_eq, List.map_take, List.map_drop]
      · cases e
    · cases e
  · next el b off n es' hu =>
    split at e
    · next es l u hes hl hh =>
      split at e
      · next hc =>
        simp only [ren, sliceA, hu, hes, boundA_ren hl, boundA_ren hh, if_pos hc]
        cases e
        simp [ren, Nat.add_right_comm]
      · cases e
    · cases e
  · cases e

theorem HR.len {b : Nat} {cs : List AV} (R : HR ρ h H) (hb : h b = some (.cells cs)) : ∃ pre : List AV, pre.length = ρ.s b ∧ H (ρ.b b) = some (.cells (pre ++ cs.map (ren ρ))) := R.cells b cs hb

theorem arrSliceA_ren {n : Nat} {el : TypeId} {x v : AV} {lo hi : Option AV} (R : HR ρ h H) (e : arrSliceA P h n el x lo hi = some v) : arrSliceA P H n el (ren ρ x) (lo.map (ren ρ)) (hi.map (ren ρ)) = some (ren ρ v) := by
  unfold arrSliceA at e
  split at e
  · next es l u hes hl hh =>
    split at e
    · next hc =>
      split at e
      · next cells => cases e; simp only [ren, arrSliceA, hes, boundA_ren hl, boundA_ren hh, if_pos hc, renL_eq, List.map_take, List.map_drop]
      · next b off =>
        split at e
        · next cs hb =>
          obtain ⟨pre, hp, hH⟩ := R.cells b cs hb
          split at e
          · next hle =>
            have hle' : off + ρ.s b + n * es ≤ (pre ++ cs.map (ren ρ)).length := by simp [hp]; omega
            simp only [ren, arrSliceA, hes, boundA_ren hl, boundA_ren hh, if_pos hc, hH, if_pos (And.intro hle' hle.2)]
            split at e
            · next h2 => cases e; rw [if_pos h2]; simp [ren, Nat.add_right_comm]
            · next h2 => cases e; rw [if_neg h2]; simp [ren]
          · cases e
        · cases e
      · cases e
    · cases e
  · cases e

theorem bytesOf_ren : ∀ {l : List AV} {bs : List UInt8}, bytesOf l = some bs → bytesOf (l.map (ren ρ)) = some bs
  | [], _, e => e
  | a :: as, bs, e => by
    simp only [bytesOf] at e
    split at e
    · next b bs' hb hbs =>
      have : byteOf (ren ρ a) = some b := by
        unfold byteOf at hb
        split at hb
        · simpa [ren, byteOf] using hb
        · cases hb
      simp only [List.map_cons, bytesOf, this, bytesOf_ren hbs]; exact e
    · cases e

theorem cellsOfSlice_ren {x : AV} {cs : List AV} (R : HR ρ h H) (e : cellsOfSlice h x = some cs) : cellsOfSlice H (ren ρ x) = some (cs.map (ren ρ)) := by
  unfold cellsOfSlice at e
  split at e
  · cases e; simp [ren, cellsOfSlice]
  · cases e; simp [ren, cellsOfSlice]
  · next b off n es =>
    split at e
    · next cs' hb =>
      obtain ⟨pre, hp, hH⟩ := R.cells b cs' hb
      split at e
      · next hle =>
        cases e
        have hle' : off + ρ.s b + n * es ≤ (pre ++ cs'.map (ren ρ)).length := by simp [hp]; omega
        simp only [ren, cellsOfSlice, hH, if_pos hle', drop_pre hp, List.map_take, List.map_drop]
      · cases e
    · cases e
  · cases e

theorem convA_ren {src dst : TypeId} {x v : AV} (R : HR ρ h H) (e : convA P h src dst x = some v) : convA P H src dst (ren ρ x) = some (ren ρ v) := by
  unfold convA at e
  split at e
  · next h1 h2 => cases e; simp only [ren, convA, h1, h2]
  · next h1 h2 => cases e; simp only [ren, convA, h1, h2]
  · next h1 h2 => cases e; simp only [ren, convA, h1, h2]
  · rename_i el h1 h2 n1 n2
    clear n1 n2
    split at e
    · next n cells hu =>
      split at e
      · next hn =>
        simp only [ren, convA, h1, h2, hu, renL_eq, List.length_map, if_pos hn]
        cases hb : bytesOf cells with
        | none => rw [hb] at e; cases e
        | some bs => rw [hb] at e; cases e; rw [bytesOf_ren hb]; rfl
      · cases e
    · next b off n es hu =>
      split at e
      · next hes =>
        split at e
        · next cells hc =>
          have := cellsOfSlice_ren R hc
          simp only [ren] at this
          simp only [ren, convA, h1, h2, hu, if_pos hes, this]
          cases hb : bytesOf cells with
          | none => rw [hb] at e; cases e
          | some bs => rw [hb] at e; cases e; rw [bytesOf_ren hb]; rfl
        · cases e
      · cases e
    · next hu => cases e; simp only [ren, convA, h1, h2, hu]
    · cases e
  · cases e

theorem splice_ren (l : List AV) (off : Nat) (vs : List AV) : splice (l.map (ren ρ)) off (vs.map (ren ρ)) = (splice l off vs).map (ren ρ) := by
  simp [splice, List.map_take, List.map_drop]
theorem splice_pre {pre l vs : List AV} {off s : Nat} (hp : pre.length = s) : splice (pre ++ l) (off + s) vs = pre ++ splice l off vs := by
  unfold splice
  rw [List.take_append, List.take_of_length_le (by omega), show off + s + vs.length = off + vs.length + s from by omega, drop_pre hp]
  simp [hp]

theorem fillA_ren {pl : Nat → Option (Nat × Nat)} : ∀ (ps : List (Nat × AV)) {cs r : List AV}, fillA pl cs ps = some r → fillA pl (cs.map (ren ρ)) (ps.map fun p => (p.1, ren ρ p.2)) = some (r.map (ren ρ))
  | [], cs, r, e => by simp only [fillA, Option.some.injEq] at e; subst e; rfl
  | (i, v) :: ps, cs, r, e => by
    simp only [fillA] at e
    split at e
    · cases e
    · next off size hp =>
      split at e
      · next hc =>
        have := fillA_ren ps e
        simp only [List.map_cons, fillA, hp, ren_cells, List.length_map, ren_fit, if_pos hc, splice_ren]
        exact this
      · cases e

theorem buildA_ren {ty : TypeId} {ps : List (Nat × AV)} {v : AV} (e : buildA P ty ps = some v) : buildA P ty (ps.map fun p => (p.1, ren ρ p.2)) = some (ren ρ v) := by
  unfold buildA at e ⊢
  split at e
  · next z pl hz hpl =>
    cases hf : fillA (fun i => pl[i]?) z ps with
    | none => rw [hf] at e; cases e
    | some r =>
      rw [hf] at e; cases e
      have := fillA_ren (ρ := ρ) ps hf
      rw [zeroT_ren hz] at this
      rw [this]; simp [ren]
  · cases e

theorem slice3A_ren {ty : TypeId} {x v m : AV} {lo hi : Option AV} (e : slice3A P ty x lo hi m = some v) : slice3A P ty (ren ρ x) (lo.map (ren ρ)) (hi.map (ren ρ)) (ren ρ m) = some (ren ρ v) := by
  unfold slice3A at e
  split at e
  · next hu =>
    split at e
    · next hc =>
      have := sliceA_ren (ρ := ρ) e
      simp only [ren, Option.map_some] at this
      simp only [ren, slice3A, hu, Option.map_some, if_pos hc]
      exact this
    · cases e
  · next hu =>
    split at e
    · next hc =>
      have := sliceA_ren (ρ := ρ) e
      simp only [ren, Option.map_some] at this
      simp only [ren, slice3A, hu, Option.map_some, if_pos hc]
      exact this
    · cases e
  · cases e
theorem pureA_ren {op : Op} {v : AV} (R : HR ρ h H) (hf : ∀ f first caps, op = .makeFunc f first caps → ∃ g, f = .func g) (e : pureA P t h op = some v) : pureA P (renF ρ t) H op = some (ren ρ v) := by
  unfold pureA at e
  split at e
  · cases e; simp [pureA]
  · cases e; simp [pureA]
  · next c a b =>
    split at e
    · next x hx => cases e; simp only [pureA, evalA_ren, hx, ren]; cases x <;> rfl
    · cases e
  · next ty a =>
    split at e
    · next b off ha =>
      split at e
      · next cs hb =>
        obtain ⟨pre, hp, hH⟩ := R.cells b cs hb
        simp only [pureA, evalA_ren, ha, ren, hH, drop_pre hp, ← List.map_drop, loadA_ren, e, Option.map_some]
      · cases e
    · next cells ha => simp only [pureA, evalA_ren, ha, ren, renL_eq, loadA_ren, e, Option.map_some]
    · cases e
  · next x =>
    split at e
    · next ha => cases e; simp only [pureA, evalA_ren, ha, ren]
    · next ha => cases e; simp only [pureA, evalA_ren, ha, ren]
    · cases e
  · simp only [pureA, evalA_ren]; exact binA_ren e
  · simp only [pureA, evalA_ren]; exact unA_ren e
  · simp only [pureA, evalA_ren]; exact convA_ren R e
  · next ty x =>
    split at e
    · cases e
    · rename_i _ d hn hd
      cases e; simp only [pureA, evalA_ren, ren]
      cases d <;> first | (exact absurd rfl (hn _)) | simp [hd]
    · cases e
  · next f first caps =>
    cases e
    obtain ⟨g, rfl⟩ := hf f first caps rfl
    simp [pureA, ren, Function.comp_def]
  · next ty x lo hi =>
    have e1 : ∀ o : Option Operand, o.map (evalA (renF ρ t)) = (o.map (evalA t)).map (ren ρ) := fun o => by cases o <;> simp
    split at e
    · next n el hu => simp only [pureA, evalA_ren, hu, e1]; exact arrSliceA_ren R e
    · next hne => simp only [pureA, evalA_ren, e1]; exact sliceA_ren e
  · next ty x lo hi m =>
    have e1 : ∀ o : Option Operand, o.map (evalA (renF ρ t)) = (o.map (evalA t)).map (ren ρ) := fun o => by cases o <;> simp
    simp only [pureA, evalA_ren, e1]
    exact slice3A_ren e
  · simp only [pureA, evalA_ren]; exact fieldAddrA_ren e
  · simp only [pureA, evalA_ren]; exact fieldA_ren e
  · simp only [pureA, evalA_ren]; exact indexAddrA_ren e
  · simp only [pureA, evalA_ren]; exact indexA_ren e
  · next x i =>
    split at e
    · next vs hx => simp only [pureA, evalA_ren, hx, ren, renL_eq, List.getElem?_map, e, Option.map_some]
    · cases e
  · next ty parts =>
    simp only [pureA, evalA_ren]
    have := buildA_ren (ρ := ρ) e
    rw [List.map_map] at this
    exact this
  · next args ats =>
    split at e
    · next x ty ha hty => simp only [pureA, ha, hty, evalA_ren]; exact lenA_ren R e
    · cases e
  · cases e
end
end Go.AH
