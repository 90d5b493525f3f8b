/-
  Soundness: arithmetic, comparisons, addresses, slices, conversions.
-/
import Derived.Test.YtobhipohnjmnhaaAhSound1
import Derived.Laws.Strings
set_option linter.unusedSimpArgs false
set_option linter.unusedVariables false
set_option linter.unusedSectionVars false
namespace Go.AH
open Go

section
variable {P : Program} {w : World} {g : AHeap}

theorem cmpA_sound {op : BinOp} {a b : Int} {r : AV} (e : cmpA op a b = some r) : ∃ v, (Op.intCmp op a b).run P w = .ok v w ∧ Rep w g v r := by
  unfold cmpA at e
  split at e <;> (try cases e) <;> refine ⟨_, rfl, ?_⟩
  · exact .bool (decide (a = b))
  · exact .bool (!decide (a = b))
  · exact .bool (decide (a < b))
  · exact .bool (decide (a ≤ b))
  · exact .bool (decide (b < a))
  · exact .bool (decide (b ≤ a))

theorem intA_sound {op : BinOp} {k : IntKind} {a b : Int} {r : AV} (hs : op ≠ .shl) (hs' : op ≠ .shr) (e : intA op k a b = some r) (ty : TypeId) :
    ∃ v, (binOp op ty (.int k a) (.int k b)).run P w = .ok v w ∧ Rep w g v r := by
  cases op <;> simp only [ne_eq, not_true, reduceCtorEq, not_false_eq_true] at hs hs'
  case add => simp only [intA, Option.some.injEq] at e; subst e; exact ⟨_, by simp [binOp, Op.intArith], .int _ _⟩
  case sub => simp only [intA, Option.some.injEq] at e; subst e; exact ⟨_, by simp [binOp, Op.intArith], .int _ _⟩
  case mul => simp only [intA, Option.some.injEq] at e; subst e; exact ⟨_, by simp [binOp, Op.intArith], .int _ _⟩
  case quo =>
    simp only [intA] at e
    split at e
    · cases e
    · next hb => simp only [Option.some.injEq] at e; subst e; exact ⟨_, by simp [binOp, Op.intDiv, hb], .int _ _⟩
  case rem =>
    simp only [intA] at e
    split at e
    · cases e
    · next hb => simp only [Option.some.injEq] at e; subst e; exact ⟨_, by simp [binOp, Op.intDiv, hb], .int _ _⟩
  case and => simp only [intA, Option.some.injEq] at e; subst e; exact ⟨_, by simp [binOp, Op.intBits], .int _ _⟩
  case or => simp only [intA, Option.some.injEq] at e; subst e; exact ⟨_, by simp [binOp, Op.intBits], .int _ _⟩
  case xor => simp only [intA, Option.some.injEq] at e; subst e; exact ⟨_, by simp [binOp, Op.intBits], .int _ _⟩
  case andNot => simp only [intA, Option.some.injEq] at e; subst e; exact ⟨_, by simp [binOp, Op.intBits], .int _ _⟩
  case eql =>
    obtain ⟨v, h1, h2⟩ := cmpA_sound (P := P) (w := w) (g := g) (op := .eql) e
    exact ⟨v, by simpa [binOp] using h1, h2⟩
  case neq =>
    obtain ⟨v, h1, h2⟩ := cmpA_sound (P := P) (w := w) (g := g) (op := .neq) e
    exact ⟨v, by simpa [binOp] using h1, h2⟩
  case lss =>
    obtain ⟨v, h1, h2⟩ := cmpA_sound (P := P) (w := w) (g := g) (op := .lss) e
    exact ⟨v, by simpa [binOp] using h1, h2⟩
  case leq =>
    obtain ⟨v, h1, h2⟩ := cmpA_sound (P := P) (w := w) (g := g) (op := .leq) e
    exact ⟨v, by simpa [binOp] using h1, h2⟩
  case gtr =>
    obtain ⟨v, h1, h2⟩ := cmpA_sound (P := P) (w := w) (g := g) (op := .gtr) e
    exact ⟨v, by simpa [binOp] using h1, h2⟩
  case geq =>
    obtain ⟨v, h1, h2⟩ := cmpA_sound (P := P) (w := w) (g := g) (op := .geq) e
    exact ⟨v, by simpa [binOp] using h1, h2⟩

theorem toList_eq (s : ByteArray) : s.toList = s.data.toList := ByteArray.toList_eq s

theorem strA_sound {op : BinOp} {a b : ByteArray} {r : AV} (e : strA op a.data.toList b.data.toList = some r) :
    ∃ v, (Op.stringOp op a b).run P w = .ok v w ∧ Rep w g v r := by
  unfold strA at e
  have eqd : (a.toList == b.toList) = decide (a.data.toList = b.data.toList) := by rw [toList_eq, toList_eq, Bool.eq_iff_iff]; simp
  split at e
  · split at e
    · next hlen =>
      simp only [Option.some.injEq] at e; subst e
      have h1 : ¬ (((a.size + b.size : Nat) : Int) > IntKind.i64.max) := by
        simp only [Array.length_toList] at hlen
        have h3 : a.data.size = a.size := rfl
        have h4 : b.data.size = b.size := rfl
        simp only [IntKind.max, IntKind.signed, IntKind.bits, if_true]
        rw [h3, h4] at hlen
        omega
      refine ⟨.string (a ++ b), ?_, ?_⟩
      · simp only [Op.stringOp]
        rw [if_neg h1]; rfl
      · have : (a ++ b).data.toList = a.data.toList ++ b.data.toList := by simp
        rw [← this]; exact .str _
    · cases e
  all_goals first
    | (cases e; refine ⟨_, rfl, ?_⟩; rw [eqd]; first | exact .bool _ | (rw [toList_eq, toList_eq]; exact .bool _))
    | (cases e; refine ⟨_, rfl, ?_⟩; rw [toList_eq, toList_eq]; exact .bool _)
    | cases e

theorem eqGuard_none {op : BinOp} {ty : TypeId} {x y : Operand} {a b : Value} (h1 : ¬ (a = .nilIface ∧ b = .nilIface)) (h2 : ∀ as bs, ¬ (a = .agg as ∧ b = .agg bs)) :
    (eqGuard op ty x y a b).run P w = .ok () w := by
  unfold eqGuard
  simp only [Sem.run_ite]
  split
  case h_3 => rw [if_pos (by simp)]; rfl
  all_goals
    rw [if_neg (by simp)]
    split
    · exact absurd ⟨rfl, rfl⟩ h1
    · exact absurd ⟨rfl, rfl⟩ (h2 _ _)
    · rfl

theorem eqlA_sound {ty : TypeId} {x y : AV} {b : Bool} {vx vy : Value} (rx : Rep w g vx x) (ry : Rep w g vy y) (e : eqlA P ty x y = some b) :
    (Op.equal ty vx vy).run P w = .ok b w ∧ ¬ (vx = .nilIface ∧ vy = .nilIface) ∧ (∀ as bs, ¬ (vx = .agg as ∧ vy = .agg bs)) ∧
      (∀ k n, vx ≠ .int k n) ∧ (∀ s, vx ≠ .string s) ∧ (∀ k n, vx ≠ .float k n) ∧ (∀ k n m, vx ≠ .complex k n m) := by
  unfold eqlA at e
  split at e <;> (try cases e) <;> (
    rename_i hu
    rw [Op.equal, show Op.maxDepth = 9999 + 1 from rfl, Op.equalIn, Sem.run_bind, run_underlying' hu]
    simp only [Result.andThen]
    cases rx; cases ry
    simp)

theorem binOp_eql {ty : TypeId} {vx vy : Value} {b : Bool} (h : (Op.equal ty vx vy).run P w = .ok b w)
    (h1 : ∀ k n, vx ≠ .int k n) (h2 : ∀ s, vx ≠ .string s) (h3 : ∀ k n, vx ≠ .float k n) (h4 : ∀ k n m, vx ≠ .complex k n m) :
    (binOp .eql ty vx vy).run P w = .ok (.bool b) w ∧ (binOp .neq ty vx vy).run P w = .ok (.bool !b) w := by
  constructor <;>
  · unfold binOp
    split
    all_goals first
      | (exact absurd rfl (h1 _ _)) | (exact absurd rfl (h2 _)) | (exact absurd rfl (h3 _ _)) | (exact absurd rfl (h4 _ _ _))
      | (simp only [Sem.run_bind, h, Result.andThen, Sem.run_pure]; done)
      | (exfalso; simp_all; done)
      | skip

theorem binA_sound {op : BinOp} {ty : TypeId} {x y : AV} {r : AV} {vx vy : Value} (ox oy : Operand) (rx : Rep w g vx x) (ry : Rep w g vy y) (e : binA P op ty x y = some r) :
    ∃ v, (do eqGuard op ty ox oy vx vy; binOp op ty vx vy : Sem Value).run P w = .ok v w ∧ Rep w g v r := by
  unfold binA at e
  split at e
  · next k a k' b =>
    rw [rx.inv_int, ry.inv_int]
    simp only [Sem.run_bind]
    rw [eqGuard_none (by simp) (by simp)]
    simp only [Result.andThen]
    split at e
    · split at e
      · cases e
      · next hb => simp only [Option.some.injEq] at e; subst e; exact ⟨_, by simp [binOp, Op.shift, hb], .int _ _⟩
    · split at e
      · cases e
      · next hb => simp only [Option.some.injEq] at e; subst e; exact ⟨_, by simp [binOp, Op.shift, hb], .int _ _⟩
    · next h1 h2 =>
      split at e
      · next hk => subst hk; exact intA_sound (fun h => h1 h) (fun h => h2 h) e ty
      · cases e
  · next a b =>
    obtain ⟨s, rfl, rfl⟩ := rx.inv_str
    obtain ⟨s', rfl, rfl⟩ := ry.inv_str
    simp only [Sem.run_bind]
    rw [eqGuard_none (by simp) (by simp)]
    simp only [Result.andThen]
    obtain ⟨v, h1, h2⟩ := strA_sound (P := P) (w := w) (g := g) e
    exact ⟨v, by simpa [binOp] using h1, h2⟩
  · split at e
    · cases hb : eqlA P ty x y with
      | none => rw [hb] at e; cases e
      | some b =>
        rw [hb] at e
        simp only [Option.map_some, Option.some.injEq] at e
        subst e
        obtain ⟨q1, q2, q3, q4, q5, q6, q7⟩ := eqlA_sound rx ry hb
        simp only [Sem.run_bind]
        rw [eqGuard_none q2 q3]
        simp only [Result.andThen]
        exact ⟨_, (binOp_eql q1 q4 q5 q6 q7).1, .bool _⟩
    · cases hb : eqlA P ty x y with
      | none => rw [hb] at e; cases e
      | some b =>
        rw [hb] at e
        simp only [Option.map_some, Option.some.injEq] at e
        subst e
        obtain ⟨q1, q2, q3, q4, q5, q6, q7⟩ := eqlA_sound rx ry hb
        simp only [Sem.run_bind]
        rw [eqGuard_none q2 q3]
        simp only [Result.andThen]
        exact ⟨_, (binOp_eql q1 q4 q5 q6 q7).2, .bool _⟩
    · cases e

theorem unA_sound {op : UnOp} {x r : AV} {vx : Value} (rx : Rep w g vx x) (e : unA op x = some r) : ∃ v, (Op.unary op vx).run P w = .ok v w ∧ Rep w g v r := by
  unfold unA at e
  split at e
  · cases e; rw [rx.inv_int]; exact ⟨_, rfl, .int _ _⟩
  · cases e; rw [rx.inv_bool]; exact ⟨_, rfl, .bool _⟩
  · rw [rx.inv_int]
    simp only [intA, Option.some.injEq] at e
    subst e
    exact ⟨_, by simp [Op.unary, Op.intBits], .int _ _⟩
  · cases e

theorem run_asIntOf {k : IntKind} {n : Int} : (asIntOf (.int k n)).run P w = .ok (k, n) w := rfl

theorem indexAddrA_sound {t : TypeId} {x i r : AV} {vx vi : Value} (rx : Rep w g vx x) (ri : Rep w g vi i) (e : indexAddrA P t x i = some r) :
    ∃ v, (Instr.indexAt t vx vi).run P w = .ok v w ∧ Rep w g v r := by
  unfold indexAddrA at e
  split at e
  · next k i =>
    rw [ri.inv_int]
    split at e
    · next el n cells hu =>
      split at e
      · next es hs =>
        split at e
        · next hc =>
          obtain ⟨c1, c2, c3⟩ := hc
          cases e
          have hne : cells ≠ [] := by rintro rfl; simp at c3
          obtain ⟨b, off, c, rfl, _, hb, hlt, hcl⟩ := cells_of_sl rx hne
          refine ⟨.pointer (some ⟨b, off + i.toNat * es, none⟩), ?_, rep_fptr hb hlt (hcl.drop _)⟩
          simp only [Instr.indexAt, Sem.run_bind, run_asIntOf, Result.andThen, run_underlying' hu, Sem.run_pure]
          rw [if_pos ⟨c1, c2⟩]
          simp only [Sem.run_bind, run_sizeOf hs, Result.andThen, Sem.run_pure, add_none]
        · cases e
      · cases e
    · next el b off n es' hu =>
      split at e
      · next es hs =>
        split at e
        · next hc =>
          cases e
          obtain ⟨c, rfl, _⟩ := rx.inv_osl
          refine ⟨.pointer (some ⟨b, off + i.toNat * es, none⟩), ?_, .ptr _ _⟩
          simp only [Instr.indexAt, Sem.run_bind, run_asIntOf, Result.andThen, run_underlying' hu, Sem.run_pure]
          rw [if_pos hc]
          simp only [Sem.run_bind, run_sizeOf hs, Result.andThen, Sem.run_pure, add_none]
        · cases e
      · cases e
    · next len el b off hu =>
      split at e
      · next es hs =>
        split at e
        · next hc =>
          cases e
          rw [rx.inv_ptr]
          refine ⟨.pointer (some ⟨b, off + i.toNat * es, none⟩), ?_, .ptr _ _⟩
          simp only [Instr.indexAt, Sem.run_bind, run_asIntOf, Result.andThen, run_underlying' hu, Sem.run_pure, Instr.sureAddr]
          rw [if_pos hc]
          simp only [Sem.run_bind, run_sizeOf hs, Result.andThen, Sem.run_pure, add_none]
        · cases e
      · cases e
    · next len el cells hu =>
      split at e
      · next es hs =>
        split at e
        · next hc =>
          cases e
          obtain ⟨b, off, rfl, hb, hlt, hcl⟩ := cells_of_fptr rx
          refine ⟨.pointer (some ⟨b, off + i.toNat * es, none⟩), ?_, rep_fptr hb hlt (hcl.drop _)⟩
          simp only [Instr.indexAt, Sem.run_bind, run_asIntOf, Result.andThen, run_underlying' hu, Sem.run_pure, Instr.sureAddr]
          rw [if_pos hc]
          simp only [Sem.run_bind, run_sizeOf hs, Result.andThen, Sem.run_pure, add_none]
        · cases e
      · cases e
    · cases e
  · cases e

theorem partA_sound {t : TypeId} {cells : List AV} {off : Nat} {r : AV} {vs : List Value} (rs : RepL w g vs cells) (ho : ∀ x ∈ cells, x.one = true) (e : partA P t cells off = some r) :
    ∃ v, (part t vs.toArray off).run P w = .ok v w ∧ Rep w g v r := by
  unfold partA loadA at e
  obtain ⟨hlen, hr⟩ := rs
  split at e
  · next a s ha hs =>
    cases a with
    | true =>
      simp only [loadC, if_true, List.length_drop] at e
      split at e
      · next hle =>
        simp only [Option.some.injEq] at e
        subst e
        refine ⟨.agg ((vs.drop off).take s).toArray, ?_, ?_⟩
        · simp only [part, Sem.run_bind, run_isAgg ha, Result.andThen, if_true, run_sizeOf hs, Sem.run_pure]
          congr 2
          simp [List.extract_eq_take_drop]
        · refine .agg (by simp [hlen]) (fun x hx => ho x (List.mem_of_mem_drop (List.mem_of_mem_take hx))) (fun i hi hj => ?_)
          simp only [List.getElem_take, List.getElem_drop]
          exact hr _ _ _
      · cases e
    | false =>
      simp only [loadC, Bool.false_eq_true, if_false, List.head?_drop] at e
      obtain ⟨h1, h2⟩ := List.getElem?_eq_some_iff.1 e
      subst h2
      have h3 : off < vs.length := by omega
      refine ⟨vs[off], ?_, hr off h3 h1⟩
      simp only [part, Sem.run_bind, run_isAgg ha, Result.andThen, Bool.false_eq_true, if_false, List.getElem?_toArray, h3, List.getElem?_eq_getElem, Sem.run_pure]
  · cases e

theorem indexA_sound {t : TypeId} {x i r : AV} {vx vi : Value} (rx : Rep w g vx x) (ri : Rep w g vi i) (e : indexA P t x i = some r) :
    ∃ v, (Instr.index t vx vi).run P w = .ok v w ∧ Rep w g v r := by
  unfold indexA at e
  split at e
  · next k i =>
    rw [ri.inv_int]
    split at e
    · next len el cells hu =>
      split at e
      · next es hs =>
        split at e
        · next hc =>
          obtain ⟨vs, rfl, h1, h2, h3⟩ := rx.inv_agg
          obtain ⟨v, h4, h5⟩ := partA_sound (P := P) h3 h2 e
          refine ⟨v, ?_, h5⟩
          simp only [Instr.index, Sem.run_bind, run_asIntOf, Result.andThen, run_underlying' hu]
          rw [if_pos hc]
          simp only [Sem.run_bind, run_sizeOf hs, Result.andThen, h4]
        · cases e
      · cases e
    · next s hu =>
      split at e
      · next hc =>
        obtain ⟨b, rfl, rfl⟩ := rx.inv_str
        cases hb : b.data.toList[i.toNat]? with
        | none => rw [hb] at e; cases e
        | some c =>
          rw [hb] at e
          simp only [Option.map_some, Option.some.injEq] at e
          subst e
          refine ⟨.int .u8 c.toNat, ?_, .int _ _⟩
          have : b[i.toNat]? = some c := by
            rw [← hb]; simp [getElem?_def]; rfl
          simp only [Instr.index, Sem.run_bind, run_asIntOf, Result.andThen, run_underlying' hu, hc, if_true, this, Sem.run_pure]
      · cases e
    · cases e
  · cases e

theorem fieldAddrA_sound {s : TypeId} {x r : AV} {f : Nat} {vx : Value} (rx : Rep w g vx x) (e : fieldAddrA P s x f = some r) :
    ∃ v, (Instr.fieldAt s vx f).run P w = .ok v w ∧ Rep w g v r := by
  unfold fieldAddrA at e
  split at e
  · next off ft hf =>
    split at e
    · next n hn =>
      split at e
      · cases e
      · next hn0 =>
        unfold foT at hf
        split at hf
        · next fields hu =>
          cases hfd : fields[f]? with
          | none => rw [hfd] at hf; cases hf
          | some fd =>
            rw [hfd] at hf
            simp only [Option.map_some, Option.some.injEq, Prod.mk.injEq] at hf
            obtain ⟨rfl, rfl⟩ := hf
            split at e
            · next b o =>
              cases e
              rw [rx.inv_ptr]
              refine ⟨.pointer (some ⟨b, o + fd.offset, none⟩), ?_, .ptr _ _⟩
              simp only [Instr.fieldAt, Sem.run_bind, run_underlying' hu, Result.andThen, hfd, Instr.sureAddr, Sem.run_pure, fieldPlace, run_sizeOf hn, hn0, if_false, add_none]
            · next cells =>
              cases e
              obtain ⟨b, o, rfl, hb, hlt, hcl⟩ := cells_of_fptr rx
              refine ⟨.pointer (some ⟨b, o + fd.offset, none⟩), ?_, rep_fptr hb hlt (hcl.drop _)⟩
              simp only [Instr.fieldAt, Sem.run_bind, run_underlying' hu, Result.andThen, hfd, Instr.sureAddr, Sem.run_pure, fieldPlace, run_sizeOf hn, hn0, if_false, add_none]
            · cases e
        · cases hf
    · cases e
  · cases e

theorem fieldA_sound {s : TypeId} {x r : AV} {f : Nat} {vx : Value} (rx : Rep w g vx x) (e : fieldA P s x f = some r) :
    ∃ v, (Instr.field s vx f).run P w = .ok v w ∧ Rep w g v r := by
  unfold fieldA at e
  split at e
  · next off ft cells hf =>
    unfold foT at hf
    split at hf
    · next fields hu =>
      cases hfd : fields[f]? with
      | none => rw [hfd] at hf; cases hf
      | some fd =>
        rw [hfd] at hf
        simp only [Option.map_some, Option.some.injEq, Prod.mk.injEq] at hf
        obtain ⟨rfl, rfl⟩ := hf
        obtain ⟨vs, rfl, h1, h2, h3⟩ := rx.inv_agg
        obtain ⟨v, h4, h5⟩ := partA_sound (P := P) h3 h2 e
        exact ⟨v, by simp only [Instr.field, Sem.run_bind, run_underlying' hu, Result.andThen, hfd, asAgg, Sem.run_pure, h4], h5⟩
    · cases hf
  · cases e

theorem lenA_sound (R : Rel w g) {h : AHeap} (hsub : ∀ b c, h b = some c → g b = some c) {t : TypeId} {x r : AV} {vx : Value} (ts : Array TypeId) (rt : TypeId) (ht : ts[0]? = some t) (rx : Rep w g vx x) (e : lenA P h t x = some r) :
    ∃ v, (Builtin.len_ ts rt #[vx]).run P w = .ok v w ∧ Rep w g v r := by
  unfold lenA at e
  split at e
  · next s hu => cases e; obtain ⟨b, rfl, rfl⟩ := rx.inv_str; exact ⟨_, by simp [Builtin.len_, ht, run_underlying' hu]; rfl, by rw [show b.data.toList.length = b.size from by simp]; exact .int _ _⟩
  · next el hu => cases e; rw [rx.inv_nilsl]; exact ⟨_, by simp [Builtin.len_, ht, run_underlying' hu]; rfl, .int _ _⟩
  · next el n cells hu => cases e; obtain ⟨a, c, rfl, _⟩ := rx.inv_sl; exact ⟨_, by simp [Builtin.len_, ht, run_underlying' hu]; rfl, .int _ _⟩
  · next el b off n es hu => cases e; obtain ⟨c, rfl, _⟩ := rx.inv_osl; exact ⟨_, by simp [Builtin.len_, ht, run_underlying' hu]; rfl, .int _ _⟩
  · next n el hu => cases e; exact ⟨_, by simp [Builtin.len_, ht, run_underlying' hu]; rfl, .int _ _⟩
  · next k el hu => cases e; rw [rx.inv_nilmap]; exact ⟨_, by simp [Builtin.len_, ht, run_underlying' hu]; rfl, .int _ _⟩
  · next k el b hu =>
    split at e
    · next sh es hb =>
      cases e
      rw [rx.inv_map]
      obtain ⟨ents, clock, h1, h2, _⟩ := R b _ (hsub _ _ hb)
      exact ⟨_, by simp [Builtin.len_, ht, run_underlying' hu, getObj, Sem.run, h1]; rfl, by rw [h2]; exact .int _ _⟩
    · cases e
  · cases e
end
end Go.AH
