/-
  The layer: AhKeys AhEff AhEff2 AhWp AhTurn AhCode.
-/
import Derived.Test.YtkdhgablioljnaaA1
import Derived.Laws.StructEq
import Derived.ChangeKeysEq
import Derived.OrdersIn
import Derived.Sort.LoopGhostIn
set_option linter.unusedSimpArgs false
set_option linter.unusedVariables false
set_option linter.unusedSectionVars false
section
/-
  Keys of maps that are integers, bools, strings, or arrays and structs of such: equality, look-up.
-/
namespace Go.AH
open Go

def kkV : Value → Option KK
  | .bool _ => some .b
  | .int k _ => some (.i k)
  | .string _ => some .s
  | _ => none
def vEq : Value → Value → Bool
  | .bool a, .bool b => a == b
  | .int _ a, .int _ b => a == b
  | .string a, .string b => a.toList == b.toList
  | _, _ => false
def eqs (xs ys : List Value) : Bool := (xs.zip ys).all fun p => vEq p.1 p.2

def flatFs (P : Program) (F : TypeId → Option (List KK)) : List Field → Nat → Option (List KK)
  | [], _ => some []
  | f :: fs, off =>
    if f.name ≠ "_" ∧ f.offset = off then
      match F f.type with
      | some ks => if szT P f.type = some ks.length then (flatFs P F fs (off + ks.length)).map (ks ++ ·) else none
      | none => none
    else none

def flatF (P : Program) : Nat → TypeId → Option (List KK)
  | 0, _ => none
  | n + 1, t =>
    match P.underlying t with
    | some .bool => some [.b]
    | some (.int k) => some [.i k]
    | some .string => some [.s]
    | some (.array len e) =>
      match flatF P n e with
      | some ks => if szT P e = some ks.length then some (List.replicate len ks).flatten else none
      | none => none
    | some (.struct fields) => if P.stoodInHeld t then none else flatFs P (flatF P n) fields.toList 0
    | _ => none

def wideT (P : Program) (t : TypeId) : Bool := match P.underlying t with | some (.struct _) => true | some (.array _ _) => true | _ => false
def valT (P : Program) (t : TypeId) (vs : List Value) : Value := if wideT P t then .agg vs.toArray else vs.headD undef

section
variable {P : Program} (w : World)

theorem kk_len {xs : List Value} {ks : List KK} (h : xs.map kkV = ks.map some) : xs.length = ks.length := by simpa using congrArg List.length h

theorem run_valT {t : TypeId} {xs : List Value} {off s : Nat} (hu : (P.underlying t).isSome = true) (hs : szT P t = some s) (hle : off + s ≤ xs.length) (h1 : wideT P t = false → s = 1) :
    (part t xs.toArray off).run P w = .ok (valT P t ((xs.drop off).take s)) w := by
  have ha : aggT P t = some (wideT P t) := by
    unfold aggT wideT
    cases hd : P.underlying t with
    | none => simp [hd] at hu
    | some d => cases d <;> rfl
  unfold part valT
  simp only [Sem.run_bind, run_isAgg ha, Result.andThen]
  cases hw : wideT P t with
  | true => simp [run_sizeOf hs, List.extract_eq_take_drop]
  | false =>
    have := h1 hw
    subst this
    have hlt : off < xs.length := by omega
    simp only [Bool.false_eq_true, if_false, List.getElem?_toArray, List.getElem?_eq_getElem hlt, Sem.run_pure]
    rw [List.drop_eq_getElem_cons hlt]; rfl

theorem flat_some {n : Nat} {t : TypeId} {ks : List KK} (h : flatF P n t = some ks) : (P.underlying t).isSome = true ∧ (wideT P t = false → ks.length = 1) := by
  cases n with
  | zero => simp [flatF] at h
  | succ n =>
    unfold flatF at h
    unfold wideT
    split at h <;> simp_all
    all_goals (cases h; simp)

def EqF (P : Program) (n : Nat) : Prop := ∀ t ks, flatF P n t = some ks → ∀ d (w : World) (xs ys : List Value), xs.map kkV = ks.map some → ys.map kkV = ks.map some →
    (Op.equalIn (d + n) t (valT P t xs) (valT P t ys)).run P w = .ok (eqs xs ys) w

theorem eqs_append {a b c d : List Value} (h : a.length = b.length) : eqs (a ++ c) (b ++ d) = (eqs a b && eqs c d) := by
  unfold eqs
  rw [List.zip_append h, List.all_append]

theorem run_eqFs {n d : Nat} (IH : EqF P n) (xs ys : List Value) : ∀ (fs : List Field) (off : Nat) (ks : List KK), flatFs P (flatF P n) fs off = some ks →
    (xs.drop off).map kkV = ks.map some → (ys.drop off).map kkV = ks.map some → (Op.eqFields (d + n) xs.toArray ys.toArray fs).run P w = .ok (eqs (xs.drop off) (ys.drop off)) w
  | [], off, ks, h, hx, hy => by
    simp only [flatFs, Option.some.injEq] at h
    subst h
    have e1 : xs.drop off = [] := by simpa using hx
    have e2 : ys.drop off = [] := by simpa using hy
    rw [e1, e2]; simp [Op.eqFields, eqs]
  | f :: fs, off, ks, h, hx, hy => by
    simp only [flatFs] at h
    split at h
    · next hc =>
      obtain ⟨hn, rfl⟩ := hc
      split at h
      · next k1 hk =>
        split at h
        · next hs =>
          cases hr : flatFs P (flatF P n) fs (f.offset + k1.length) with
          | none => rw [hr] at h; cases h
          | some k2 =>
            rw [hr] at h
            simp only [Option.map_some, Option.some.injEq] at h
            subst h
            have lx := kk_len hx
            have ly := kk_len hy
            rw [List.length_drop, List.length_append] at lx ly
            obtain ⟨f1, f2⟩ := flat_some hk
            have sp : ∀ zs : List Value, (zs.drop f.offset).map kkV = (k1 ++ k2).map some → zs.length - f.offset = k1.length + k2.length →
                ((zs.drop f.offset).take k1.length).map kkV = k1.map some ∧ (zs.drop (f.offset + k1.length)).map kkV = k2.map some := by
              intro zs hz hl
              constructor
              · rw [List.map_take, hz, List.map_append, List.take_append_of_le_length (by simp), List.take_of_length_le (by simp)]
              · rw [← List.drop_drop, List.map_drop, hz, List.map_append, List.drop_append_of_le_length (by simp), List.drop_of_length_le (by simp)]; simp
            obtain ⟨x1, x2⟩ := sp xs hx lx
            obtain ⟨y1, y2⟩ := sp ys hy ly
            by_cases hk0 : k1.length + k2.length = 0
            · have hz : k1 = [] := List.eq_nil_of_length_eq_zero (by omega)
              subst hz
              have q := IH _ _ hk d w ((xs.drop f.offset).take 0) ((ys.drop f.offset).take 0) x1 y1
              have px := run_valT (P := P) w (t := f.type) (xs := xs) (off := f.offset) (s := 0) f1 hs
              have py := run_valT (P := P) w (t := f.type) (xs := ys) (off := f.offset) (s := 0) f1 hs
              by_cases hwide : wideT P f.type = true
              · have unf : ∀ zs : List Value, (part f.type zs.toArray f.offset).run P w = .ok (valT P f.type ((zs.drop f.offset).take 0)) w := by
                  intro zs
                  have ha : aggT P f.type = some true := by
                    unfold aggT; unfold wideT at hwide
                    cases hd : P.underlying f.type with
                    | none => simp [hd] at f1
                    | some dd => cases dd <;> simp_all
                  unfold part valT
                  simp only [Sem.run_bind, run_isAgg ha, Result.andThen, hwide, if_true, run_sizeOf hs]
                  simp [List.extract_eq_take_drop]
                simp only [Op.eqFields, hn, ne_eq, not_false_eq_true, if_true, Sem.run_bind, unf, Result.andThen, q]
                have : eqs ((xs.drop f.offset).take 0) ((ys.drop f.offset).take 0) = true := by simp [eqs]
                rw [this]
                simp only [Bool.not_true, Bool.false_eq_true, if_false]
                have r := run_eqFs IH xs ys fs _ k2 hr x2 y2 (d := d)
                simpa using r
              · exact absurd (f2 (by simpa using hwide)) (by simp)
            · have px := run_valT (P := P) w (t := f.type) (xs := xs) (off := f.offset) f1 hs (by omega) f2
              have py := run_valT (P := P) w (t := f.type) (xs := ys) (off := f.offset) f1 hs (by omega) f2
              have q := IH _ _ hk d w _ _ x1 y1
              have r := run_eqFs IH xs ys fs _ k2 hr x2 y2 (d := d)
              simp only [Op.eqFields, hn, ne_eq, not_false_eq_true, if_true, Sem.run_bind, px, py, Result.andThen, q]
              have e : eqs (xs.drop f.offset) (ys.drop f.offset) = (eqs ((xs.drop f.offset).take k1.length) ((ys.drop f.offset).take k1.length) && eqs (xs.drop (f.offset + k1.length)) (ys.drop (f.offset + k1.length))) := by
                rw [← eqs_append (by simp; omega), ← List.drop_drop, ← List.drop_drop, List.take_append_drop, List.take_append_drop]
              rw [e]
              cases eqs ((xs.drop f.offset).take k1.length) ((ys.drop f.offset).take k1.length) with
              | false => simp
              | true => simpa using r
        · cases h
      · cases h
    · cases h

theorem run_eqIs {n d : Nat} (IH : EqF P n) {e : TypeId} {k1 : List KK} (hk : flatF P n e = some k1) (hs : szT P e = some k1.length) (xs ys : List Value) : ∀ (m j : Nat),
    (xs.drop (j * k1.length)).map kkV = ((List.replicate m k1).flatten).map some → (ys.drop (j * k1.length)).map kkV = ((List.replicate m k1).flatten).map some → (j + m) * k1.length ≤ xs.length → (j + m) * k1.length ≤ ys.length →
    (Op.eqItems (d + n) e k1.length xs.toArray ys.toArray (List.range' j m)).run P w = .ok (eqs (xs.drop (j * k1.length)) (ys.drop (j * k1.length))) w
  | 0, j, hx, hy, _, _ => by
    have e1 : xs.drop (j * k1.length) = [] := by simpa using hx
    have e2 : ys.drop (j * k1.length) = [] := by simpa using hy
    rw [e1, e2]; simp [Op.eqItems, eqs]
  | m + 1, j, hx, hy, lx, ly => by
    rw [List.replicate_succ, List.flatten_cons] at hx hy
    obtain ⟨f1, f2⟩ := flat_some hk
    have sp : ∀ zs : List Value, (zs.drop (j * k1.length)).map kkV = (k1 ++ (List.replicate m k1).flatten).map some →
        ((zs.drop (j * k1.length)).take k1.length).map kkV = k1.map some ∧ (zs.drop ((j + 1) * k1.length)).map kkV = ((List.replicate m k1).flatten).map some := by
      intro zs hz
      constructor
      · rw [List.map_take, hz, List.map_append, List.take_append_of_le_length (by simp), List.take_of_length_le (by simp)]
      · rw [Nat.succ_mul, ← List.drop_drop, List.map_drop, hz, List.map_append, List.drop_append_of_le_length (by simp), List.drop_of_length_le (by simp)]; simp
    obtain ⟨x1, x2⟩ := sp xs hx
    obtain ⟨y1, y2⟩ := sp ys hy
    have hj : j * k1.length + k1.length ≤ (j + (m + 1)) * k1.length := by
      rw [← Nat.succ_mul]; exact Nat.mul_le_mul_right _ (by omega)
    have px := run_valT (P := P) w (t := e) (xs := xs) (off := j * k1.length) f1 hs (by omega) f2
    have py := run_valT (P := P) w (t := e) (xs := ys) (off := j * k1.length) f1 hs (by omega) f2
    have q := IH _ _ hk d w _ _ x1 y1
    have r := run_eqIs IH hk hs xs ys m (j + 1) x2 y2 (by rw [Nat.add_right_comm]; exact lx) (by rw [Nat.add_right_comm]; exact ly) (d := d)
    simp only [List.range'_succ, Op.eqItems, Sem.run_bind, px, py, Result.andThen, q]
    have e : eqs (xs.drop (j * k1.length)) (ys.drop (j * k1.length)) = (eqs ((xs.drop (j * k1.length)).take k1.length) ((ys.drop (j * k1.length)).take k1.length) && eqs (xs.drop ((j + 1) * k1.length)) (ys.drop ((j + 1) * k1.length))) := by
      rw [Nat.succ_mul, ← eqs_append (by simp; omega), ← List.drop_drop, ← List.drop_drop, List.take_append_drop, List.take_append_drop]
    rw [e]
    cases eqs ((xs.drop (j * k1.length)).take k1.length) ((ys.drop (j * k1.length)).take k1.length) with
    | false => simp
    | true => simpa using r

theorem one_of_kk {xs : List Value} {k : KK} (h : xs.map kkV = [some k]) : ∃ v, xs = [v] ∧ kkV v = some k := by
  cases xs with
  | nil => simp at h
  | cons v xs => cases xs with
    | nil => simp at h; exact ⟨v, rfl, h⟩
    | cons _ _ => simp at h

theorem eqF_all : ∀ n, EqF P n
  | 0 => by intro t ks h; simp [flatF] at h
  | n + 1 => by
    intro t ks h d w xs ys hx hy
    have IH := eqF_all n
    rw [show d + (n + 1) = (d + n) + 1 from rfl]
    unfold flatF at h
    split at h
    · next hu =>
      cases h
      obtain ⟨v, rfl, kv⟩ := one_of_kk hx
      obtain ⟨v', rfl, kv'⟩ := one_of_kk hy
      cases v <;> simp [kkV] at kv
      cases v' <;> simp [kkV] at kv'
      simp [valT, wideT, hu, Op.equalIn, run_underlying' hu, eqs, vEq]
    · next k hu =>
      cases h
      obtain ⟨v, rfl, kv⟩ := one_of_kk hx
      obtain ⟨v', rfl, kv'⟩ := one_of_kk hy
      cases v <;> simp [kkV] at kv
      cases v' <;> simp [kkV] at kv'
      subst kv; subst kv'
      simp [valT, wideT, hu, Op.equalIn, run_underlying' hu, eqs, vEq]
    · next hu =>
      cases h
      obtain ⟨v, rfl, kv⟩ := one_of_kk hx
      obtain ⟨v', rfl, kv'⟩ := one_of_kk hy
      cases v <;> simp [kkV] at kv
      cases v' <;> simp [kkV] at kv'
      have := run_equalIn_string (P := P) w (d + n) t ‹ByteArray› ‹ByteArray› hu
      simp [valT, wideT, hu, eqs, vEq, run_equalIn_string w (d + n) t _ _ hu]
    · next len e hu =>
      split at h
      · next k1 hk =>
        split at h
        · next hs =>
          simp only [Option.some.injEq] at h
          subst h
          cases hi : P.info? e with
          | none => simp [szT, hi] at hs
          | some i =>
            have hsz : P.cellsOf e = k1.length := by simp [szT, hi] at hs; simp [Program.cellsOf, hi, hs]
            have lx := kk_len hx
            have ly := kk_len hy
            have lf : ((List.replicate len k1).flatten).length = len * k1.length := by simp
            have r := run_eqIs (P := P) (w := w) IH hk hs xs ys len 0 (d := d) (by simpa using hx) (by simpa using hy) (by simp; omega) (by simp; omega)
            have hv : ∀ zs, valT P t zs = .agg zs.toArray := by intro zs; simp [valT, wideT, hu]
            rw [hv, hv, run_equalIn_array w (d + n) xs.toArray ys.toArray hu hi]
            simpa [List.range_eq_range', hsz] using r
        · cases h
      · cases h
    · next fields hu =>
      split at h
      · cases h
      · next hst =>
        have r := run_eqFs (P := P) (w := w) IH xs ys fields.toList 0 ks h (d := d) (by simpa using hx) (by simpa using hy)
        have hv : ∀ zs, valT P t zs = .agg zs.toArray := by intro zs; simp [valT, wideT, hu]
        have hfo : P.fieldsOf t = fields := by simp [Program.fieldsOf, hu]
        rw [hv, hv, run_equalIn_struct w (d + n) t xs.toArray ys.toArray (by rw [hfo]; exact hu) (by simpa using hst), hfo]
        simpa using r
    · cases h

def ChkF (P : Program) (n : Nat) : Prop := ∀ t ks, flatF P n t = some ks → ∀ em d (w : World) (xs : List Value), xs.map kkV = ks.map some → (Instr.checkKey em (d + n) t (valT P t xs)).run P w = .ok () w

theorem chkF_all : ∀ n, ChkF P n
  | 0 => by intro t ks h; simp [flatF] at h
  | n + 1 => by
    intro t ks h em d w xs hx
    have IH := chkF_all n
    rw [show d + (n + 1) = (d + n) + 1 from rfl, Instr.checkKey]
    unfold flatF at h
    split at h
    · next hu => simp [valT, wideT, hu, run_underlying' hu]
    · next k hu => simp [valT, wideT, hu, run_underlying' hu]
    · next hu => simp [valT, wideT, hu, run_underlying' hu]
    · next len e hu =>
      split at h
      · next k1 hk =>
        split at h
        · next hs =>
          simp only [Option.some.injEq] at h
          subst h
          obtain ⟨f1, f2⟩ := flat_some hk
          have hv : valT P t xs = .agg xs.toArray := by simp [valT, wideT, hu]
          rw [hv]
          simp only [Sem.run_bind, run_underlying' hu, Result.andThen_ok]
          simp only [Std.Legacy.Range.forIn_eq_forIn_range', Std.Legacy.Range.size, Nat.sub_zero, Nat.add_one_sub_one, Nat.div_one]
          have lx := kk_len hx
          have key : ∀ (m j : Nat), (xs.drop (j * k1.length)).map kkV = ((List.replicate m k1).flatten).map some → (j + m) * k1.length ≤ xs.length →
              Sem.run P (forIn (List.range' j m) PUnit.unit fun i _ => do
                let s ← sizeOf e
                let p ← part e xs.toArray (i * s)
                Instr.checkKey em (d + n) e p
                pure (ForInStep.yield PUnit.unit)) w = .ok PUnit.unit w := by
            intro m
            induction m with
            | zero => intro j _ _; simp
            | succ m ih =>
              intro j hz hl
              rw [List.replicate_succ, List.flatten_cons] at hz
              have hj : j * k1.length + k1.length ≤ (j + (m + 1)) * k1.length := by
                rw [← Nat.succ_mul]; exact Nat.mul_le_mul_right _ (by omega)
              have z1 : ((xs.drop (j * k1.length)).take k1.length).map kkV = k1.map some := by
                rw [List.map_take, hz, List.map_append, List.take_append_of_le_length (by simp), List.take_of_length_le (by simp)]
              have z2 : (xs.drop ((j + 1) * k1.length)).map kkV = ((List.replicate m k1).flatten).map some := by
                rw [Nat.succ_mul, ← List.drop_drop, List.map_drop, hz, List.map_append, List.drop_append_of_le_length (by simp), List.drop_of_length_le (by simp)]; simp
              have px := run_valT (P := P) w (t := e) (xs := xs) (off := j * k1.length) f1 hs (by omega) f2
              have q := IH _ _ hk em d w _ z1
              simp only [List.range'_succ, List.forIn_cons, Sem.run_bind, run_sizeOf hs, Result.andThen_ok, px, q, Sem.run_pure]
              exact ih (j + 1) z2 (by rw [Nat.add_right_comm]; exact hl)
          have := key len 0 (by simpa using hx) (by have lf : ((List.replicate len k1).flatten).length = len * k1.length := by simp
                                                    simp; omega)
          simp only [bind_pure_comp] at this ⊢
          rw [this]; rfl
        · cases h
      · cases h
    · next fields hu =>
      split at h
      · cases h
      · next hst =>
        have hv : valT P t xs = .agg xs.toArray := by simp [valT, wideT, hu]
        rw [hv]
        simp only [Sem.run_bind, run_underlying' hu, Result.andThen_ok]
        rw [← Array.forIn_toList]
        have key : ∀ (fs : List Field) (off : Nat) (ks : List KK), flatFs P (flatF P n) fs off = some ks → (xs.drop off).map kkV = ks.map some → off ≤ xs.length →
            Sem.run P (forIn fs PUnit.unit fun f _ => do
              if f.name ≠ "_" then do
                let p ← part f.type xs.toArray f.offset
                Instr.checkKey em (d + n) f.type p
                pure (ForInStep.yield PUnit.unit)
              else pure (ForInStep.yield PUnit.unit)) w = .ok PUnit.unit w := by
          intro fs
          induction fs with
          | nil => intro off ks _ _ _; simp
          | cons f fs ih =>
            intro off ks h hz hoff
            simp only [flatFs] at h
            split at h
            · next hc =>
              obtain ⟨hn, rfl⟩ := hc
              split at h
              · next k1 hk =>
                split at h
                · next hs =>
                  cases hr : flatFs P (flatF P n) fs (f.offset + k1.length) with
                  | none => rw [hr] at h; cases h
                  | some k2 =>
                    rw [hr] at h
                    simp only [Option.map_some, Option.some.injEq] at h
                    subst h
                    have lx := kk_len hz
                    rw [List.length_drop, List.length_append] at lx
                    obtain ⟨f1, f2⟩ := flat_some hk
                    have z1 : ((xs.drop f.offset).take k1.length).map kkV = k1.map some := by
                      rw [List.map_take, hz, List.map_append, List.take_append_of_le_length (by simp), List.take_of_length_le (by simp)]
                    have z2 : (xs.drop (f.offset + k1.length)).map kkV = k2.map some := by
                      rw [← List.drop_drop, List.map_drop, hz, List.map_append, List.drop_append_of_le_length (by simp), List.drop_of_length_le (by simp)]; simp
                    have px := run_valT (P := P) w (t := f.type) (xs := xs) (off := f.offset) f1 hs (by omega) f2
                    have q := IH _ _ hk em d w _ z1
                    simp only [List.forIn_cons, Sem.run_bind, hn, ne_eq, not_false_eq_true, if_true, px, q, Result.andThen_ok, Sem.run_pure]
                    exact ih _ k2 hr z2 (by omega)
                · cases h
              · cases h
            · cases h
        have := key fields.toList 0 ks h (by simpa using hx) (Nat.zero_le _)
        simp only [bind_pure_comp] at this ⊢
        rw [this]; rfl
    · cases h

/-- A map type's key, as a shape. -/
def shapeT (P : Program) (t : TypeId) : Option KShape :=
  match P.underlying t with
  | some .bool => some (.one .b)
  | some (.int k) => some (.one (.i k))
  | some .string => some (.one .s)
  | some (.array _ _) => (flatF P 10 t).map .many
  | some (.struct _) => (flatF P 10 t).map .many
  | _ => none

variable {w}
variable {g : AHeap}

theorem kk_rep {v : Value} {a : AV} {k : KK} (r : Rep w g v a) (e : kkOf a = some k) : kkV v = some k := by
  cases r <;> simp_all [kkOf, kkV]

open Classical in
theorem vEq_rep {v v' : Value} {a a' : AV} {k : KK} (r : Rep w g v a) (r' : Rep w g v' a') (e : kkOf a = some k) (e' : kkOf a' = some k) : vEq v v' = decide (a = a') := by
  cases r <;> simp [kkOf] at e
  · cases r' <;> simp [kkOf, ← e] at e'
    rename_i b b'
    by_cases h : b = b' <;> simp [vEq, h]
  · cases r' <;> simp [kkOf, ← e] at e'
    rename_i k0 n k1 n'
    subst e'
    by_cases h : n = n' <;> simp [vEq, h]
  · cases r' <;> simp [kkOf, ← e] at e'
    rename_i s s'
    rw [vEq, toList_eq, toList_eq, Bool.eq_iff_iff]; simp

theorem RepL.kk {vs : List Value} {as : List AV} : ∀ {ks : List KK}, RepL w g vs as → as.map kkOf = ks.map some → vs.map kkV = ks.map some := by
  induction vs generalizing as with
  | nil => intro ks r e
           have : as = [] := List.eq_nil_of_length_eq_zero (by have := r.1; simpa using this.symm)
           subst this
           simpa using e
  | cons v vs ih =>
    intro ks r e
    cases as with
    | nil => exact absurd r.1 (by simp)
    | cons a as =>
      obtain ⟨_, _, e1, r1, r2⟩ := r.uncons
      cases e1
      cases ks with
      | nil => simp at e
      | cons k ks =>
        simp only [List.map_cons, List.cons.injEq] at e ⊢
        exact ⟨kk_rep r1 e.1, ih r2 e.2⟩

open Classical in
theorem eqs_rep {vs vs' : List Value} {as as' : List AV} : ∀ {ks : List KK}, RepL w g vs as → RepL w g vs' as' → as.map kkOf = ks.map some → as'.map kkOf = ks.map some → eqs vs vs' = decide (as = as') := by
  induction vs generalizing as vs' as' with
  | nil => intro ks r r' e e'
           have : as = [] := List.eq_nil_of_length_eq_zero (by have := r.1; simpa using this.symm)
           subst this
           have hk : ks = [] := by simpa using e.symm
           subst hk
           have : as' = [] := by simpa using e'
           subst this
           simp [eqs]
  | cons v vs ih =>
    intro ks r r' e e'
    cases as with
    | nil => exact absurd r.1 (by simp)
    | cons a as =>
      obtain ⟨_, _, e1, r1, r2⟩ := r.uncons
      cases e1
      cases ks with
      | nil => simp at e
      | cons k ks =>
        cases as' with
        | nil => simp at e'
        | cons a' as' =>
          obtain ⟨v', vs'', rfl, r1', r2'⟩ := r'.uncons
          simp only [List.map_cons, List.cons.injEq] at e e'
          have q1 := vEq_rep r1 r1' e.1 e'.1
          have q2 := ih r2 r2' e.2 e'.2
          have : eqs (v :: vs) (v' :: vs'') = (vEq v v' && eqs vs vs'') := rfl
          rw [this, q1, q2, Bool.eq_iff_iff]
          simp

theorem many_rep {ks : List KK} {v : Value} {a : AV} (r : Rep w g v a) (e : (KShape.many ks).ok a = true) : ∃ (vs : List Value) (cells : List AV), v = .agg vs.toArray ∧ a = .agg cells ∧ RepL w g vs cells ∧ cells.map kkOf = ks.map some := by
  cases r <;> simp [KShape.ok] at e
  rename_i vs cells h1 ho hr
  exact ⟨vs, cells, rfl, rfl, ⟨h1, hr⟩, e⟩

open Classical in
/-- The first place of a key. -/
noncomputable def mapIdx (es : List (AV × AV)) (k : AV) : Option Nat := es.findIdx? fun e => decide (e.1 = k)
open Classical in
noncomputable def mapGet : List (AV × AV) → AV → Option AV
  | [], _ => none
  | e :: es, k => if e.1 = k then some e.2 else mapGet es k
open Classical in
noncomputable def mapSet : List (AV × AV) → AV → AV → List (AV × AV)
  | [], k, v => [(k, v)]
  | e :: es, k, v => if e.1 = k then (k, v) :: es else e :: mapSet es k v

/-- Entries and pairs. -/
def RepE (w : World) (g : AHeap) (ents : List MapEntry) (es : List (AV × AV)) : Prop :=
  ents.length = es.length ∧ ∀ i (hi : i < es.length) (hj : i < ents.length), Rep w g ents[i].key es[i].1 ∧ Rep w g ents[i].val es[i].2

theorem RepE.uncons {ents : List MapEntry} {e : AV × AV} {es : List (AV × AV)} (r : RepE w g ents (e :: es)) : ∃ m ms, ents = m :: ms ∧ Rep w g m.key e.1 ∧ Rep w g m.val e.2 ∧ RepE w g ms es := by
  obtain ⟨h1, h2⟩ := r
  cases ents with
  | nil => simp at h1
  | cons m ms =>
    have := h2 0 (by simp) (by simp)
    exact ⟨m, ms, rfl, this.1, this.2, by simpa using h1, fun i hi hj => by have := h2 (i + 1) (by simpa using hi) (by simpa using hj); simpa using this⟩

/-- What a look-up over the list finds. -/
def FoundAt (w : World) (g : AHeap) (ents : List MapEntry) (es : List (AV × AV)) (k : AV) (i0 : Nat) : Option (Nat × Value) → Prop
  | none => mapGet es k = none
  | some (i, x) => ∃ j a, i = i0 + j ∧ mapGet es k = some a ∧ Rep w g x a ∧ (∃ (hj : j < ents.length), ents[j].val = x) ∧ mapIdx es k = some j

theorem foundAt_step_ne {m : MapEntry} {ms : List MapEntry} {e : AV × AV} {es : List (AV × AV)} {k : AV} {i0 : Nat} {r : Option (Nat × Value)} (hne : e.1 ≠ k) (h : FoundAt w g ms es k (i0 + 1) r) : FoundAt w g (m :: ms) (e :: es) k i0 r := by
  cases r with
  | none => simpa [FoundAt, mapGet, hne] using h
  | some p =>
    obtain ⟨i, x⟩ := p
    obtain ⟨j, a, h1, h2, h3, ⟨hj, h4⟩, h5⟩ := h
    refine ⟨j + 1, a, by omega, by simpa [mapGet, hne] using h2, h3, ⟨by simp; omega, by simpa using h4⟩, ?_⟩
    unfold mapIdx at h5 ⊢
    simp [List.findIdx?_cons, hne, h5]

theorem foundAt_step_eq {m : MapEntry} {ms : List MapEntry} {e : AV × AV} {es : List (AV × AV)} {i0 : Nat} (hv : Rep w g m.val e.2) : FoundAt w g (m :: ms) (e :: es) e.1 i0 (some (i0, m.val)) := by
  refine ⟨0, e.2, rfl, by simp [mapGet], hv, ⟨by simp, rfl⟩, ?_⟩
  unfold mapIdx
  simp [List.findIdx?_cons]

theorem sameNow_rep {d : TypeDesc} {k : KK} (hd : (d = .bool ∧ k = .b) ∨ (∃ i, d = .int i ∧ k = .i i) ∨ (d = .string ∧ k = .s)) {v v' : Value} {a a' : AV} (r : Rep w g v a) (r' : Rep w g v' a') (e : kkOf a = some k) (e' : kkOf a' = some k) :
    Instr.sameNow d v v' = some (vEq v v') := by
  rcases hd with ⟨rfl, rfl⟩ | ⟨i, rfl, rfl⟩ | ⟨rfl, rfl⟩
  · cases r <;> simp [kkOf] at e
    cases r' <;> simp [kkOf] at e'
    rfl
  · cases r <;> simp [kkOf] at e
    cases r' <;> simp [kkOf] at e'
    subst e; subst e'
    simp [Instr.sameNow, vEq]
  · cases r <;> simp [kkOf] at e
    cases r' <;> simp [kkOf] at e'
    rename_i s s'
    simp [Instr.sameNow, vEq, beq_toListBytes]

theorem run_findNow {d : TypeDesc} {k : KK} (hd : (d = .bool ∧ k = .b) ∨ (∃ i, d = .int i ∧ k = .i i) ∨ (d = .string ∧ k = .s)) {v : Value} {a : AV} (rv : Rep w g v a) (ea : kkOf a = some k) :
    ∀ (es : List (AV × AV)) (ents : List MapEntry) (i0 : Nat), RepE w g ents es → (∀ e ∈ es, kkOf e.1 = some k) → ∃ r, Instr.findNow d v ents i0 = some r ∧ FoundAt w g ents es a i0 r
  | [], ents, i0, hr, _ => by
    have : ents = [] := List.eq_nil_of_length_eq_zero (by have := hr.1; simpa using this)
    subst this
    exact ⟨none, rfl, by simp [FoundAt, mapGet]⟩
  | e :: es, ents, i0, hr, hk => by
    obtain ⟨m, ms, rfl, r1, r2, r3⟩ := hr.uncons
    have hke := hk e (by simp)
    have hs := sameNow_rep hd rv r1 ea hke
    have hv := vEq_rep rv r1 ea hke
    by_cases heq : e.1 = a
    · subst heq
      have : vEq v m.key = true := by rw [hv]; simp
      rw [this] at hs
      exact ⟨some (i0, m.val), by simp [Instr.findNow, hs], foundAt_step_eq r2⟩
    · have : vEq v m.key = false := by rw [hv]; simp; exact fun h => heq h.symm
      rw [this] at hs
      obtain ⟨r, h1, h2⟩ := run_findNow hd rv ea es ms (i0 + 1) r3 (fun x hx => hk x (by simp [hx]))
      exact ⟨r, by simpa [Instr.findNow, hs] using h1, foundAt_step_ne heq h2⟩

theorem run_findAsking {t : TypeId} {ks : List KK} (hf : flatF P 10 t = some ks) (hw : wideT P t = true) {v : Value} {a : AV} (rv : Rep w g v a) (ea : (KShape.many ks).ok a = true) :
    ∀ (es : List (AV × AV)) (ents : List MapEntry) (i0 : Nat), RepE w g ents es → (∀ e ∈ es, (KShape.many ks).ok e.1 = true) → ∃ r, (Instr.findAsking t v ents i0).run P w = .ok r w ∧ FoundAt w g ents es a i0 r
  | [], ents, i0, hr, _ => by
    have : ents = [] := List.eq_nil_of_length_eq_zero (by have := hr.1; simpa using this)
    subst this
    exact ⟨none, rfl, by simp [FoundAt, mapGet]⟩
  | e :: es, ents, i0, hr, hk => by
    obtain ⟨m, ms, rfl, r1, r2, r3⟩ := hr.uncons
    obtain ⟨vs, cells, hv1, hv2, hv3, hv4⟩ := many_rep rv ea
    obtain ⟨us, cells', hu1, hu2, hu3, hu4⟩ := many_rep r1 (hk e (by simp))
    have q := eqF_all 10 t ks hf (9990) w vs us (hv3.kk hv4) (hu3.kk hu4)
    rw [eqs_rep hv3 hu3 hv4 hu4] at q
    obtain ⟨b, qq, hb⟩ : ∃ b : Bool, (Op.equal t v m.key).run P w = .ok b w ∧ (b = true ↔ cells = cells') :=
      ⟨_, by rw [hv1, hu1]; simpa [valT, hw, Op.equal, Op.maxDepth] using q, by simp⟩
    by_cases heq : e.1 = a
    · have hc : cells = cells' := by rw [hu2, hv2] at heq; cases heq; rfl
      subst heq
      refine ⟨some (i0, m.val), ?_, foundAt_step_eq r2⟩
      simp only [Instr.findAsking, Sem.run_bind, qq, Result.andThen]
      rw [if_pos (hb.2 hc)]; rfl
    · have hc : cells ≠ cells' := fun h => heq (by rw [hu2, hv2, h])
      obtain ⟨r, h1, h2⟩ := run_findAsking hf hw rv ea es ms (i0 + 1) r3 (fun x hx => hk x (by simp [hx]))
      refine ⟨r, ?_, foundAt_step_ne heq h2⟩
      simp only [Instr.findAsking, Sem.run_bind, qq, Result.andThen]
      rw [if_neg (fun h => hc (hb.1 h))]; exact h1

theorem shape_cases {t : TypeId} {sh : KShape} (hs : shapeT P t = some sh) :
    (∃ d k, sh = .one k ∧ P.underlying t = some d ∧ ((d = .bool ∧ k = .b) ∨ (∃ i, d = .int i ∧ k = .i i) ∨ (d = .string ∧ k = .s))) ∨ (∃ ks, sh = .many ks ∧ flatF P 10 t = some ks ∧ wideT P t = true) := by
  unfold shapeT at hs
  split at hs
  · next h => cases hs; exact .inl ⟨_, _, rfl, h, .inl ⟨rfl, rfl⟩⟩
  · next k h => cases hs; exact .inl ⟨_, _, rfl, h, .inr (.inl ⟨_, rfl, rfl⟩)⟩
  · next h => cases hs; exact .inl ⟨_, _, rfl, h, .inr (.inr ⟨rfl, rfl⟩)⟩
  · next h =>
    cases hf : flatF P 10 t with
    | none => rw [hf] at hs; cases hs
    | some ks => rw [hf] at hs; cases hs; exact .inr ⟨ks, rfl, rfl, by simp [wideT, h]⟩
  · next h =>
    cases hf : flatF P 10 t with
    | none => rw [hf] at hs; cases hs
    | some ks => rw [hf] at hs; cases hs; exact .inr ⟨ks, rfl, rfl, by simp [wideT, h]⟩
  · cases hs

theorem run_findKey {t : TypeId} {sh : KShape} (hs : shapeT P t = some sh) {v : Value} {a : AV} (rv : Rep w g v a) (ea : sh.ok a = true) {es : List (AV × AV)} {ents : List MapEntry}
    (hr : RepE w g ents es) (hk : ∀ e ∈ es, sh.ok e.1 = true) : ∃ r, (Instr.findKey t v ents).run P w = .ok r w ∧ FoundAt w g ents es a 0 r := by
  rcases shape_cases hs with ⟨d, k, rfl, hu, hd⟩ | ⟨ks, rfl, hf, hw⟩
  · obtain ⟨r, h1, h2⟩ := run_findNow hd rv (by simpa [KShape.ok] using ea) es ents 0 hr (fun e he => by simpa [KShape.ok] using hk e he)
    exact ⟨r, by simp [Instr.findKey, run_underlying' hu, h1], h2⟩
  · cases ents with
    | nil =>
      have : es = [] := List.eq_nil_of_length_eq_zero (by have := hr.1; simpa using this.symm)
      subst this
      refine ⟨none, ?_, by simp [FoundAt, mapGet]⟩
      unfold wideT at hw
      cases hu : P.underlying t with
      | none => simp [hu] at hw
      | some d => simp [Instr.findKey, run_underlying' hu, Instr.findNow]
    | cons m ms =>
      obtain ⟨r, h1, h2⟩ := run_findAsking hf hw rv ea es (m :: ms) 0 hr hk
      refine ⟨r, ?_, h2⟩
      unfold wideT at hw
      cases hu : P.underlying t with
      | none => simp [hu] at hw
      | some d =>
        have : Instr.findNow d v (m :: ms) 0 = none := by
          cases d <;> simp [hu] at hw <;> simp [Instr.findNow, Instr.sameNow]
        simp only [Instr.findKey, Sem.run_bind, run_underlying' hu, Result.andThen, this]
        exact h1

theorem run_checkKey {t : TypeId} {sh : KShape} (hs : shapeT P t = some sh) {v : Value} {a : AV} (rv : Rep w g v a) (ea : sh.ok a = true) (em : Bool) : (Instr.checkKey em 10000 t v).run P w = .ok () w := by
  rcases shape_cases hs with ⟨d, k, rfl, hu, hd⟩ | ⟨ks, rfl, hf, hw⟩
  · rw [show 10000 = 9999 + 1 from rfl, Instr.checkKey, Sem.run_bind, run_underlying' hu]
    rcases hd with ⟨rfl, rfl⟩ | ⟨i, rfl, rfl⟩ | ⟨rfl, rfl⟩ <;> rfl
  · obtain ⟨vs, cells, hv1, hv2, hv3, hv4⟩ := many_rep rv ea
    have := chkF_all 10 t ks hf em 9990 w vs (hv3.kk hv4)
    rw [hv1]
    simpa [valT, hw] using this
end
end Go.AH

end

section
/-
  Operations that turn memory: what they ask and what they leave, abstractly; their soundness.
-/
namespace Go.AH
open Go

def AF.putO (t : AF) (d : Option Nat) (v : AV) : AF := match d with | some d => t.put d v | none => t

def zcells (z : List AV) (k : Nat) : List AV := (List.range (k * z.length)).map fun i => z.getD (i % z.length) .undef
theorem zcells_one (x : AV) (k : Nat) : zcells [x] k = List.replicate k x := by
  unfold zcells
  simp only [List.length_singleton, Nat.mul_one, Nat.mod_one]
  induction k with
  | zero => rfl
  | succ k ih => rw [List.range_succ, List.map_append, ih, List.replicate_succ']; rfl

/-- The elements that an append or a copy reads. -/
def appXs (h : AHeap) (es : Nat) : AV → Option (Nat × List AV)
  | .nilsl => some (0, [])
  | .sl n cells => if cells.length = n * es then some (n, cells) else none
  | .osl b off n es' =>
    match h b with
    | some (.cells cs) => if es' = es ∧ n * es ≤ (cs.drop off).length then some (n, (cs.drop off).take (n * es)) else none
    | _ => none
  | .str s => if es = 1 then some (s.length, s.map fun b => .int .u8 b.toNat) else none
  | _ => none

def zeroV (P : Program) (t : TypeId) : Option AV :=
  match (P.info? t).bind (·.zero) with
  | some z => match cval z with
    | .undef => none
    | a => some a
  | none => none

def rowT (P : Program) (t : TypeId) : Bool := match P.underlying t with | some (.slice _) => true | some .string => true | _ => false
/-- A slice type's element: its type, cells, bytes, zero. -/
def elemT (P : Program) (t : TypeId) : Option (TypeId × Nat × Nat × List AV) :=
  match P.underlying t with
  | some (.slice e) => match szT P e, bytesT P e, zeroT P e with
    | some es, some by_, some z => if z.length = es ∧ by_ ≤ 65536 then some (e, es, by_, z) else none
    | _, _, _ => none
  | _ => none

def minA (mx : Bool) : AV → List AV → Option AV
  | a, [] => some a
  | .int k x, .int _ y :: rest => minA mx (.int k (if (if mx then x < y else y < x) then y else x)) rest
  | _, _ => none

noncomputable def effStep (P : Program) (t : AF) (h : AHeap) (op : Op) (K : AV → AHeap → Prop) : Prop :=
  match op with
  | .alloc e => match zeroT P e with
    | some z => ∀ b, h b = none → K (.ptr b 0) (h.upd b (.cells z))
    | none => False
  | .box _ x => (evalA t x).fit = true ∧ ∀ b, h b = none → K (.ptr b 0) (h.upd b (.cells (evalA t x).cells))
  | .buildSlice ty len parts => match elemT P ty with
    | some (_, es, _, z) => match fillA (fun i => some (i * es, es)) (zcells z len) (parts.toList.map fun p => (p.1, evalA t p.2)) with
      | some cells => len ≤ 65536 ∧ es ≤ 128 ∧ ∀ b, h b = none → K (.osl b 0 len es) (h.upd b (.cells cells))
      | none => False
    | none => False
  | .store ty a x => match evalA t a with
    | .ptr b off => match h b with
      | some (.cells cs) => (evalA t x).fit = true ∧ szT P ty = some (evalA t x).cells.length ∧ off + (evalA t x).cells.length ≤ cs.length ∧ K .undef (h.upd b (.cells (splice cs off (evalA t x).cells)))
      | _ => False
    | _ => False
  | .makeSlice ty l c => match elemT P ty with
    | some (_, es, _, z) => match evalA t l, evalA t c with
      | .int _ l, .int _ c => 0 ≤ l ∧ l ≤ c ∧ c < 2 ^ 30 ∧ ∀ b, h b = none → K (.osl b 0 l.toNat es) (h.upd b (.cells (zcells z l.toNat)))
      | _, _ => False
    | none => False
  | .makeMap ty none => match P.underlying ty with
    | some (.map kt _) => match shapeT P kt with
      | some sh => ∀ b, h b = none → K (.map b) (h.upd b (.map sh []))
      | none => False
    | _ => False
  | .mapUpdate ty m k x => match P.underlying ty with
    | some (.map kt _) => match evalA t m with
      | .map b => match h b with
        | some (.map sh es) => shapeT P kt = some sh ∧ sh.ok (evalA t k) = true ∧ K .undef (h.upd b (.map sh (mapSet es (evalA t k) (evalA t x))))
        | _ => False
      | _ => False
    | _ => False
  | .insert ty m k x => match P.underlying ty with
    | some (.map kt _) => match evalA t m with
      | .map b => match h b with
        | some (.map sh es) => shapeT P kt = some sh ∧ sh.ok (evalA t k) = true ∧ K .undef (h.upd b (.map sh (mapSet es (evalA t k) (evalA t x))))
        | _ => False
      | _ => False
    | _ => False
  | .lookup ty m k ok => match P.underlying ty with
    | some (.map kt et) => match zeroV P et, evalA t m with
      | some z, .map b => match h b with
        | some (.map sh es) => shapeT P kt = some sh ∧ sh.ok (evalA t k) = true ∧
          K (if ok then .tup [(mapGet es (evalA t k)).getD z, .bool (mapGet es (evalA t k)).isSome] else (mapGet es (evalA t k)).getD z) h
        | _ => False
      | _, _ => False
    | _ => False
  | .range ty x => match P.underlying ty, evalA t x with
    | some .string, .str s => ∀ b, h b = none → K (.ptr b 0) (h.upd b (.sit s 0))
    | _, _ => False
  | .next it true => match evalA t it with
    | .ptr b 0 => match h b with
      | some (.sit s pos) =>
        (pos < s.length → K (.tup [.bool true, .int .i64 pos, .int .i32 (Utf8.decode ⟨s.toArray⟩ pos).1]) (h.upd b (.sit s (pos + (Utf8.decode ⟨s.toArray⟩ pos).2)))) ∧
        (¬ pos < s.length → K (.tup [.bool false]) h)
      | _ => False
    | _ => False
  | .call { callee := .builtin .append, args, argTypes } => match args.toList, argTypes.toList with
    | [s, x], [ts, tx] => match elemT P ts with
      | some (_, es, _, _) => rowT P tx = true ∧ match appXs h es (evalA t x) with
        | some (k, xs) => match evalA t s with
          | .nilsl => (k = 0 → K .nilsl h) ∧ (k ≠ 0 → k < 2 ^ 30 ∧ ∀ b, h b = none → K (.osl b 0 k es) (h.upd b (.cells xs)))
          | .osl b 0 n es' => es' = es ∧ n + k < 2 ^ 30 ∧ match h b with
            | some (.cells cs) => cs.length = n * es ∧ ∀ b', (h.del b) b' = none → K (.osl b' 0 (n + k) es) ((h.del b).upd b' (.cells (cs ++ xs)))
            | _ => False
          | .osl b (off + 1) n es' => es' = es ∧ n + k < 2 ^ 30 ∧ match h b with
            | some (.cells cs) => cs.length = off + 1 + n * es ∧ ∀ b' (pre : List AV), (h.del b) b' = none → K (.osl b' pre.length (n + k) es) ((h.del b).upd b' (.cells (pre ++ (cs.drop (off + 1) ++ xs))))
            | _ => False
          | _ => False
        | none => False
      | none => False
    | _, _ => False
  | .call { callee := .builtin .copy, args, argTypes } => match args.toList, argTypes.toList with
    | [d, x], [td, _] => match elemT P td with
      | some (_, es, _, _) => match appXs h es (evalA t x), evalA t d with
        | some (k, xs), .osl b off n es' => es' = es ∧ match h b with
          | some (.cells cs) => off + n * es ≤ cs.length ∧ K (.int .i64 (min k n)) (h.upd b (.cells (splice cs off (xs.take (min k n * es)))))
          | _ => False
        | _, _ => False
      | none => False
    | _, _ => False
  | .call { callee := .builtin .min, args, .. } => match args.toList with
    | x :: rest => match minA false (evalA t x) (rest.map (evalA t)) with
      | some r => K r h
      | none => False
    | [] => False
  | .call { callee := .builtin .max, args, .. } => match args.toList with
    | x :: rest => match minA true (evalA t x) (rest.map (evalA t)) with
      | some r => K r h
      | none => False
    | [] => False
  | op => onSome (pureA P t h op) fun v => K v h

section
variable {P : Program} {w : World} {h hf : AHeap} {t : AF} {ρ : Operand → Value} {o : Oper}

/-- What is shown of an operation. -/
def EffOut (P : Program) (w : World) (h hf : AHeap) (ρ : Operand → Value) (o : Oper) (K : AV → AHeap → Prop) : Prop :=
  ∃ v w' r h', ((execOp ρ o).run P w = .ok (.value v) w' ∨ ((execOp ρ o).run P w = .ok .skip w' ∧ v = Go.undef)) ∧ K r h' ∧ Rep w' (h'.un hf) v r ∧ Disj h' hf ∧ Rel w' (h'.un hf) ∧
    Stp w h hf w' h'

theorem eff_pure (D : Disj h hf) (R : Rel w (h.un hf)) (hρ : RepO w (h.un hf) ρ t) {K : AV → AHeap → Prop} {v : AV} (e : pureA P t h o.op = some v) (k : K v h) : EffOut P w h hf ρ o K := by
  obtain ⟨x, h1, h2⟩ := pureA_sound R (fun b c hb => AHeap.un_some hb) hρ e
  exact ⟨x, w, v, h, .inl h1, k, h2, D, R, .refl _ _ _⟩

/-- A fresh block for h. -/
theorem fresh_both (R : Rel w (h.un hf)) : h w.heap.size = none ∧ hf w.heap.size = none := AHeap.un_eq_none.1 R.fresh

theorem eff_new (D : Disj h hf) (R : Rel w (h.un hf)) {K : AV → AHeap → Prop} {v : Value} {r : AV} {w1 : World} {c : Chunk} (hrun : (execOp ρ o).run P w = .ok (.value v) w1)
    (x : Ext w (h.un hf) w1 ((h.un hf).upd w.heap.size c)) (R1 : Rel w1 ((h.un hf).upd w.heap.size c)) (k : K r (h.upd w.heap.size c)) (rv : Rep w1 ((h.un hf).upd w.heap.size c) v r) (hw : ∀ i, i < w.heap.size → w1.heap[i]? = w.heap[i]?) : EffOut P w h hf ρ o K := by
  refine ⟨v, w1, r, h.upd w.heap.size c, .inl hrun, k, ?_, D.upd (fresh_both R).2, ?_, ?_⟩
  · rw [AHeap.un_upd]; exact rv
  · rw [AHeap.un_upd]; exact R1
  · refine ⟨by rw [AHeap.un_upd]; exact x, fun b hb => hw b ?_⟩
    cases hc : hf b with
    | none => exact absurd hc hb
    | some c => exact R.lt (c := c) (by rw [D.un_comm]; exact AHeap.un_some hc)

theorem alloc_old (w : World) (o : Obj) : ∀ i, i < w.heap.size → (w.alloc o).heap[i]? = w.heap[i]? := fun i hi => by
  show (w.heap.push o)[i]? = _
  rw [Array.getElem?_push, if_neg (by omega)]

theorem eff_alloc (D : Disj h hf) (R : Rel w (h.un hf)) {K : AV → AHeap → Prop} {e : TypeId} (ho : o.op = .alloc e) {z : List AV} (hz : zeroT P e = some z) (k : ∀ b, h b = none → K (.ptr b 0) (h.upd b (.cells z))) : EffOut P w h hf ρ o K := by
  obtain ⟨zv, h1, h2, h3⟩ := zeroT_sound (P := P) (w := w) (g := h.un hf) hz
  have hl := h2.1
  obtain ⟨x, R1⟩ := new_cells (w := w) (g := h.un hf) R (e := e) (vs := zv.cells) (cs := z) (by rw [List.take_of_length_le (by omega)]; exact h2) h3
  refine eff_new D R (v := .pointer (some ⟨w.heap.size, 0, none⟩)) ?_ x R1 (k _ (fresh_both R).1) (.ptr _ _) (alloc_old w _)
  simp [execOp, ho, Instr.alloc, h1, newVar, newRow]

theorem eff_box (D : Disj h hf) (R : Rel w (h.un hf)) (hρ : RepO w (h.un hf) ρ t) {K : AV → AHeap → Prop} {e : TypeId} {x : Operand} (ho : o.op = .box e x) (hfit : (evalA t x).fit = true)
    (k : ∀ b, h b = none → K (.ptr b 0) (h.upd b (.cells (evalA t x).cells))) : EffOut P w h hf ρ o K := by
  obtain ⟨h2, h3⟩ := (hρ x).cells hfit
  have hl := h2.1
  obtain ⟨xx, R1⟩ := new_cells (w := w) (g := h.un hf) R (e := e) (vs := (ρ x).cells) (cs := (evalA t x).cells) (by rw [List.take_of_length_le (by omega)]; exact h2) h3
  refine eff_new D R (v := .pointer (some ⟨w.heap.size, 0, none⟩)) ?_ xx R1 (k _ (fresh_both R).1) (.ptr _ _) (alloc_old w _)
  simp [execOp, ho, Instr.box, newVar, newRow]

theorem elemT_spec {ty e : TypeId} {es by_ : Nat} {z : List AV} (he : elemT P ty = some (e, es, by_, z)) :
    P.underlying ty = some (.slice e) ∧ szT P e = some es ∧ bytesT P e = some by_ ∧ zeroT P e = some z ∧ z.length = es ∧ by_ ≤ 65536 := by
  unfold elemT at he
  split at he
  · next e' hu =>
    split at he
    · next a b c h1 h2 h3 =>
      split at he
      · next hc => cases he; exact ⟨hu, h1, h2, h3, hc.1, hc.2⟩
      · cases he
    · cases he
  · cases he

theorem zrep {g : AHeap} {z : List AV} {zv : Array Value} (r : RepL w g zv.toList z) (n : Nat) (hz : n ≠ 0 → z.length ≠ 0) :
    RepL w g ((Array.range n).map (fun i => zv[i % zv.size]!)).toList ((List.range n).map fun i => z.getD (i % z.length) .undef) := by
  have hl : zv.size = z.length := by have := r.1; simpa using this
  refine ⟨by simp, fun i hi hj => ?_⟩
  simp only [Array.length_toList, Array.size_map, Array.size_range] at hi
  have hz' := hz (by omega)
  have hm : i % z.length < z.length := Nat.mod_lt _ (by omega)
  have hm' : i % zv.size < zv.size := by rw [hl]; exact hm
  have := r.2 (i % z.length) (by simp; omega) hm
  simp only [Array.toList_map, Array.toList_range, List.getElem_map, List.getElem_range]
  rw [getElem!_pos zv (i % zv.size) hm']
  simp only [List.getD_eq_getElem?_getD, List.getElem?_eq_getElem hm, Option.getD_some]
  simpa [hl] using this

theorem ones_range {z : List AV} (ho : ∀ x ∈ z, x.one = true) (n : Nat) (hz : n ≠ 0 → z.length ≠ 0) : ∀ x ∈ (List.range n).map (fun i => z.getD (i % z.length) AV.undef), x.one = true := by
  intro x hx
  obtain ⟨i, hi, rfl⟩ := List.mem_map.1 hx
  have hi' : i < n := by simpa using hi
  have hm : i % z.length < z.length := Nat.mod_lt _ (by have := hz (by omega); omega)
  rw [List.getD_eq_getElem?_getD, List.getElem?_eq_getElem hm, Option.getD_some]
  exact ho _ (List.getElem_mem hm)

theorem eff_buildSlice (D : Disj h hf) (R : Rel w (h.un hf)) (hρ : RepO w (h.un hf) ρ t) {K : AV → AHeap → Prop} {ty : TypeId} {len : Nat} {parts : Array (Nat × Operand)} (ho : o.op = .buildSlice ty len parts)
    {e : TypeId} {es by_ : Nat} {z : List AV} (he : elemT P ty = some (e, es, by_, z)) {cells : List AV} (hfl : fillA (fun i => some (i * es, es)) (zcells z len) (parts.toList.map fun p => (p.1, evalA t p.2)) = some cells)
    (hlen : len ≤ 65536) (hes : es ≤ 128) (k : ∀ b, h b = none → K (.osl b 0 len es) (h.upd b (.cells cells))) : EffOut P w h hf ρ o K := by
  obtain ⟨hu, hs, hb, hz, hzl, _⟩ := elemT_spec he
  obtain ⟨zv, h1, h2, h3⟩ := zeroT_sound (P := P) (w := w) (g := h.un hf) hz
  have hzs : zv.cells.size = es := by have := h2.1; simp at this; omega
  have hne : len * es ≠ 0 → z.length ≠ 0 := by intro h0 h1; rw [hzl] at h1; simp [h1] at h0
  have r0 := zrep h2 (len * es) hne
  have o0 := ones_range h3 (len * es) hne
  obtain ⟨cs, f1, f2, f3⟩ := fillA_sound (w := w) (g := h.un hf) (pl := fun i => some (i * es, es)) (pl' := fun i => some (i * es, es)) (fun _ _ h => h) _ _ _ ((Array.range (len * es)).map (fun i => zv.cells[i % zv.cells.size]!)) cells (hρ.parts parts)
    (by simpa [zcells, hzl] using r0) (by simpa [zcells, hzl] using o0) hfl
  have hcs : cs.size = cells.length := by have := f2.1; simpa using this
  have hbig : ¬ (len * es > 2 ^ 24) := by
    have : len * es ≤ 65536 * 128 := Nat.mul_le_mul hlen hes
    omega
  have flen : ∀ (as : List (Nat × AV)) (z r : List AV), fillA (fun i => some (i * es, es)) z as = some r → r.length = z.length := by
    intro as
    induction as with
    | nil => intro z r e; simp only [fillA, Option.some.injEq] at e; rw [e]
    | cons p as ih =>
      intro z r e
      simp only [fillA] at e
      split at e
      · next hc => rw [ih _ _ e]; simp only [splice, List.length_append, List.length_take, List.length_drop]; omega
      · cases e
  have hcl : cells.length = len * es := by rw [flen _ _ _ hfl]; simp [zcells, hzl]
  obtain ⟨x, R1⟩ := new_cells (w := w) (g := h.un hf) R (e := e) (vs := cs) (cs := cells) (by rw [List.take_of_length_le (by simp; omega)]; exact f2) f3
  refine eff_new D R (v := .slice (some ⟨w.heap.size, 0, none⟩) len len) ?_ x R1 (k _ (fresh_both R).1) (.osl (Nat.le_refl _) ⟨.inl rfl, by omega⟩ ⟨cs, e, (0, 0), alloc_at w _, by omega⟩) (alloc_old w _)
  simp only [Array.toList_map] at f1
  simp only [execOp, ho, Instr.buildSlice, Sem.run_bind, run_underlying' hu, Result.andThen, run_sizeOf hs]
  rw [if_neg hbig]
  by_cases h0 : len * es = 0
  · have e1 : (Array.range (len * es)).map (fun i => zv.cells[i % zv.cells.size]!) = #[] := by rw [h0]; simp
    have e2 : ∀ f : Nat → Value, (Array.range 0).map f = #[] := fun f => by simp
    rw [e1] at f1
    simp [h0, e2, f1, newRow]
  · rw [if_neg h0]
    simp only [Sem.run_bind, h1, Sem.run_pure, Result.andThen, Array.toList_map, f1]
    simp [newRow]

theorem eff_store (D : Disj h hf) (R : Rel w (h.un hf)) (hρ : RepO w (h.un hf) ρ t) {K : AV → AHeap → Prop} {ty : TypeId} {a x : Operand} (ho : o.op = .store ty a x) {b off : Nat} (ha : evalA t a = .ptr b off) {cs : List AV} (hb : h b = some (.cells cs))
    (hfit : (evalA t x).fit = true) (hs : szT P ty = some (evalA t x).cells.length) (hle : off + (evalA t x).cells.length ≤ cs.length) (k : K .undef (h.upd b (.cells (splice cs off (evalA t x).cells)))) : EffOut P w h hf ρ o K := by
  obtain ⟨h2, h3⟩ := (hρ x).cells hfit
  have hp := (ha ▸ hρ a : Rep w (h.un hf) (ρ a) (.ptr b off)).inv_ptr
  obtain ⟨w', h4, h5, h6, h7⟩ := store_cells (P := P) R (AHeap.un_some hb) (off := off) h2 h3 hle
  have hsz : (ρ x).cells.size = (evalA t x).cells.length := by have := h2.1; simpa using this
  refine ⟨Go.undef, w', .undef, h.upd b (.cells (splice cs off (evalA t x).cells)), .inr ⟨?_, rfl⟩, k, .undef _, D.upd (D.none_right hb), ?_, ?_⟩
  · simp only [execOp, ho, Instr.storeAt, Sem.run_bind, hp, Instr.sureAddr, Sem.run_pure, Result.andThen, storeVar, run_sizeOf hs]
    rw [if_neg (by simp [hsz])]
    simp [h4]
  · rw [AHeap.un_upd]; exact h6
  · exact .only (by rw [AHeap.un_upd]; exact h5) h7 (D.none_right hb)

theorem eff_makeSlice (D : Disj h hf) (R : Rel w (h.un hf)) (hρ : RepO w (h.un hf) ρ t) {K : AV → AHeap → Prop} {ty : TypeId} {lo co : Operand} (ho : o.op = .makeSlice ty lo co) {e : TypeId} {es by_ : Nat} {z : List AV} (he : elemT P ty = some (e, es, by_, z))
    {kl kc : IntKind} {l c : Int} (hl : evalA t lo = .int kl l) (hc : evalA t co = .int kc c) (h0 : 0 ≤ l) (hlc : l ≤ c) (hcs : c < 2 ^ 30) (k : ∀ b, h b = none → K (.osl b 0 l.toNat es) (h.upd b (.cells (zcells z l.toNat)))) : EffOut P w h hf ρ o K := by
  obtain ⟨hu, hs, hb, hz, hzl, hby⟩ := elemT_spec he
  obtain ⟨zv, h1, h2, h3⟩ := zeroT_sound (P := P) (w := w) (g := h.un hf) hz
  have hzs : zv.cells.size = es := by have := h2.1; simp at this; omega
  have hne : ∀ n, n * es ≠ 0 → z.length ≠ 0 := by intro n h0 h1; rw [hzl] at h1; simp [h1] at h0
  have r0 := zrep h2 (c.toNat * es) (hne _)
  have hvl := (hl ▸ hρ lo : Rep w (h.un hf) (ρ lo) (.int kl l)).inv_int
  have hvc := (hc ▸ hρ co : Rep w (h.un hf) (ρ co) (.int kc c)).inv_int
  have hwl : IntKind.i64.wrap l = l := by simp [IntKind.wrap, IntKind.bits, IntKind.signed]; omega
  have hwc : IntKind.i64.wrap c = c := by simp [IntKind.wrap, IntKind.bits, IntKind.signed]; omega
  cases hi : P.info? e with
  | none => simp [szT, hi] at hs
  | some i =>
    have hby' : i.bytes = by_ := by simpa [bytesT, hi] using hb
    have hmul : (i.bytes : Int) * c ≤ 65536 * 2 ^ 30 := by
      rw [hby']
      calc (by_ : Int) * c ≤ 65536 * c := Int.mul_le_mul_of_nonneg_right (by omega) (by omega)
        _ ≤ 65536 * 2 ^ 30 := Int.mul_le_mul_of_nonneg_left (by omega) (by omega)
    have hle : l.toNat * es ≤ c.toNat * es := Nat.mul_le_mul_right _ (by omega)
    obtain ⟨x, R1⟩ := new_cells (w := w) (g := h.un hf) R (e := e) (vs := (Array.range (c.toNat * es)).map (fun i => zv.cells[i % zv.cells.size]!)) (cs := zcells z l.toNat) (by
        have q := zrep h2 (l.toNat * es) (hne _)
        have e1 : (((Array.range (c.toNat * es)).map (fun i => zv.cells[i % zv.cells.size]!)).toList.take (zcells z l.toNat).length) = ((Array.range (l.toNat * es)).map (fun i => zv.cells[i % zv.cells.size]!)).toList := by
          simp only [zcells, hzl, List.length_map, List.length_range, Array.toList_map, Array.toList_range, ← List.map_take, List.take_range]
          rw [show min (l.toNat * es) (c.toNat * es) = l.toNat * es from by omega]
        rw [e1]; simpa [zcells, hzl] using q) (by simpa [zcells, hzl] using ones_range h3 (l.toNat * es) (hne _))
    refine eff_new D R (v := .slice (some ⟨w.heap.size, 0, none⟩) l.toNat c.toNat) ?_ x R1 (k _ (fresh_both R).1) (.osl (by omega) ⟨.inl rfl, by omega⟩ ⟨_, e, (0, 0), alloc_at w _, by simp⟩) (alloc_old w _)
    have hti : (typeInfo e).run P w = .ok i w := by simp [typeInfo, hi]
    have htest : ((decide (c < 0) || decide ((i.bytes : Int) * c > 2 ^ 48)) || decide (l < 0) || decide (l > c)) = false := by
      simp only [Bool.or_eq_false_iff, decide_eq_false_iff_not]
      exact ⟨⟨⟨by omega, by omega⟩, by omega⟩, by omega⟩
    simp only [execOp, ho, Instr.makeSlice, Sem.run_bind, run_underlying' hu, Result.andThen, hvl, hvc, asInt, asIntOf, Sem.run_pure, hti, hwl, hwc, htest, Bool.false_eq_true, if_false, run_askRoom, run_sizeOf hs]
    by_cases h0 : c.toNat * es = 0
    · have e2 : ∀ f : Nat → Value, (Array.range 0).map f = #[] := fun f => by simp
      simp [h0, e2, newRow]
    · rw [if_neg h0]
      simp [h1, newRow]

theorem eff_makeMap (D : Disj h hf) (R : Rel w (h.un hf)) {K : AV → AHeap → Prop} {ty : TypeId} (ho : o.op = .makeMap ty none) {sh : KShape} (k : ∀ b, h b = none → K (.map b) (h.upd b (.map sh []))) : EffOut P w h hf ρ o K := by
  obtain ⟨x, R1⟩ := Rel.alloc (w := w) (g := h.un hf) (o := .map #[] 0) (c := .map sh []) R (fun _ => ⟨#[], 0, alloc_at w _, rfl, by simp, fun i hi => absurd hi (Nat.not_lt_zero i)⟩)
  refine eff_new D R (v := .map (some w.heap.size)) ?_ x R1 (k _ (fresh_both R).1) (.map _) (alloc_old w _)
  simp [execOp, ho, Instr.makeMap]

theorem eff_range (D : Disj h hf) (R : Rel w (h.un hf)) (hρ : RepO w (h.un hf) ρ t) {K : AV → AHeap → Prop} {ty : TypeId} {x : Operand} (ho : o.op = .range ty x) (hu : P.underlying ty = some .string) {s : List UInt8} (hx : evalA t x = .str s)
    (k : ∀ b, h b = none → K (.ptr b 0) (h.upd b (.sit s 0))) : EffOut P w h hf ρ o K := by
  obtain ⟨b, hb, hbs⟩ := (hx ▸ hρ x : Rep w (h.un hf) (ρ x) (.str s)).inv_str
  obtain ⟨xx, R1⟩ := Rel.alloc (w := w) (g := h.un hf) (o := .stringIter b 0) (c := .sit s 0) R (fun _ => by
    show (w.alloc _).heap[w.heap.size]? = _
    rw [alloc_at]; subst hbs; rfl)
  refine eff_new D R (v := .pointer (some ⟨w.heap.size, 0, none⟩)) ?_ xx R1 (k _ (fresh_both R).1) (.ptr _ _) (alloc_old w _)
  simp [execOp, ho, Instr.range, run_underlying' hu, hb]

theorem run_getObj {b : Nat} {ob : Obj} (hb : w.heap[b]? = some ob) (hn : ∀ c e f, ob ≠ .cells c e f) : (getObj b).run P w = .ok ob w := by
  cases ob <;> first | (exact absurd rfl (hn _ _ _)) | simp [getObj, Sem.run, hb]
theorem run_setObj {b : Nat} {ob ob' : Obj} (hb : w.heap[b]? = some ob) (hn : ∀ c e f, ob ≠ .cells c e f) : (setObj b ob').run P w = .ok () (w.putObj b ob') := by
  cases ob <;> first | (exact absurd rfl (hn _ _ _)) | simp [setObj, Sem.run, hb, World.putObj]

theorem eff_put (D : Disj h hf) (R : Rel w (h.un hf)) {b : Nat} {c0 c : Chunk} {ob ob' : Obj} (hb : h b = some c0) (ho : w.heap[b]? = some ob) (hn : ∀ c e f, ob ≠ .cells c e f)
    (hk : ∀ _ : Ext w (h.un hf) (w.putObj b ob') ((h.un hf).upd b c), ChunkOk (w.putObj b ob') ((h.un hf).upd b c) b c) :
    Disj (h.upd b c) hf ∧ Rel (w.putObj b ob') ((h.upd b c).un hf) ∧ Stp w h hf (w.putObj b ob') (h.upd b c) := by
  obtain ⟨x, R1⟩ := R.upd (c := c) (AHeap.un_some hb) (Only.putObj w b ob') (fun cs e fr hc => by rw [ho] at hc; cases hc; exact absurd rfl (hn _ _ _)) hk
  refine ⟨D.upd (D.none_right hb), by rw [AHeap.un_upd]; exact R1, .only (by rw [AHeap.un_upd]; exact x) (Only.putObj w b ob') (D.none_right hb)⟩

theorem eff_next (D : Disj h hf) (R : Rel w (h.un hf)) (hρ : RepO w (h.un hf) ρ t) {K : AV → AHeap → Prop} {it : Operand} (ho : o.op = .next it true) {b : Nat} (hit : evalA t it = .ptr b 0) {s : List UInt8} {pos : Nat} (hb : h b = some (.sit s pos))
    (k1 : pos < s.length → K (.tup [.bool true, .int .i64 pos, .int .i32 (Utf8.decode ⟨s.toArray⟩ pos).1]) (h.upd b (.sit s (pos + (Utf8.decode ⟨s.toArray⟩ pos).2)))) (k2 : ¬ pos < s.length → K (.tup [.bool false]) h) : EffOut P w h hf ρ o K := by
  have hp := (hit ▸ hρ it : Rep w (h.un hf) (ρ it) (.ptr b 0)).inv_ptr
  have hob : w.heap[b]? = some (.stringIter ⟨s.toArray⟩ pos) := R b _ (AHeap.un_some hb)
  have hsz : (⟨s.toArray⟩ : ByteArray).size = s.length := by simp [ByteArray.size]
  by_cases hlt : pos < s.length
  · have hlt' : pos < (⟨s.toArray⟩ : ByteArray).size := by rw [hsz]; exact hlt
    obtain ⟨e1, e2, e3⟩ := eff_put (c := .sit s (pos + (Utf8.decode ⟨s.toArray⟩ pos).2)) (ob' := .stringIter ⟨s.toArray⟩ (pos + (Utf8.decode ⟨s.toArray⟩ pos).2)) D R hb hob (fun _ _ _ h => by cases h)
      (fun _ => World.putObj_heap_same (Array.getElem?_eq_some_iff.1 hob).1)
    refine ⟨.tuple #[.bool true, .int .i64 pos, .int .i32 (Utf8.decode ⟨s.toArray⟩ pos).1], _, _, _, .inl ?_, k1 hlt, ?_, e1, e2, e3⟩
    · simp only [execOp, ho, Instr.next, Sem.run_bind, hp, run_getObj hob (fun _ _ _ h => by cases h), Result.andThen, hlt', if_true, run_setObj hob (fun _ _ _ h => by cases h), Sem.run_pure]; rfl
    · exact .tup (vs := [.bool true, .int .i64 pos, .int .i32 (Utf8.decode ⟨s.toArray⟩ pos).1]) rfl (RepL.cons (.bool true) (.cons (.int _ _) (.cons (.int _ _) .nil))).2
  · have hlt' : ¬ pos < (⟨s.toArray⟩ : ByteArray).size := by rw [hsz]; exact hlt
    refine ⟨.tuple #[.bool false], w, _, _, .inl ?_, k2 hlt, ?_, D, R, .refl _ _ _⟩
    · simp only [execOp, ho, Instr.next, Sem.run_bind, hp, run_getObj hob (fun _ _ _ h => by cases h), Result.andThen, hlt', if_false, Sem.run_pure]
    · exact .tup (vs := [.bool false]) rfl (RepL.cons (.bool false) .nil).2
end
end Go.AH

end

section
/-
  Operations that turn memory, continued: maps, append, copy, min, max; the soundness of effStep.
-/
namespace Go.AH
open Go

section
variable {P : Program} {w : World} {g h hf : AHeap} {t : AF} {ρ : Operand → Value} {o : Oper}

theorem mapSet_none {k v : AV} : ∀ {es : List (AV × AV)}, mapGet es k = none → mapSet es k v = es ++ [(k, v)]
  | [], _ => rfl
  | e :: es, h => by
    simp only [mapGet] at h
    split at h
    · cases h
    · next hne => simp only [mapSet, hne, if_false, List.cons_append, mapSet_none h]

theorem mapSet_some {k v : AV} : ∀ {es : List (AV × AV)} {j : Nat}, mapIdx es k = some j → ∃ hj : j < es.length, es[j].1 = k ∧ mapSet es k v = es.set j (k, v)
  | [], j, h => by simp [mapIdx] at h
  | e :: es, j, h => by
    unfold mapIdx at h
    rw [List.findIdx?_cons] at h
    split at h
    · next hd =>
      have he : e.1 = k := by simpa using hd
      simp only [Option.some.injEq] at h
      subst h
      exact ⟨by simp, by simpa using he, by simp [mapSet, he]⟩
    · next hd =>
      have he : ¬ e.1 = k := by simpa using hd
      cases hi : es.findIdx? (fun e => @decide (e.1 = k) (Classical.propDecidable _)) with
      | none => rw [hi] at h; cases h
      | some i =>
        rw [hi] at h
        simp only [Option.map_some, Option.some.injEq] at h
        subst h
        obtain ⟨h1, h2, h3⟩ := mapSet_some (v := v) (show mapIdx es k = some i from hi)
        exact ⟨by simp; omega, by simpa using h2, by simp [mapSet, he, h3]⟩

theorem sameBits_one {v v' : Value} {a : AV} {k : KK} (r : Rep w g v a) (r' : Rep w g v' a) (e : kkOf a = some k) (n : Nat) : Instr.sameBits n v v' = true := by
  cases r <;> simp [kkOf] at e
  · cases r'; simp [Instr.sameBits]
  · cases r'; simp [Instr.sameBits]
  · rename_i s
    obtain ⟨s', rfl, h2⟩ := Rep.inv_str r'
    have : s = s' := by
      cases s; cases s'
      simp only [ByteArray.mk.injEq]
      exact Array.toList_inj.1 h2.symm
    subst this
    cases n <;> simp [Instr.sameBits, beq_toListBytes]

theorem sameBits_all {vs vs' : List Value} {cells : List AV} : ∀ {ks : List KK}, RepL w g vs cells → RepL w g vs' cells → cells.map kkOf = ks.map some → ∀ n, (vs.zip vs').all (fun p => Instr.sameBits n p.1 p.2) = true := by
  induction cells generalizing vs vs' with
  | nil => intro ks r _ _ n
           have : vs = [] := List.eq_nil_of_length_eq_zero (by have := r.1; simpa using this)
           subst this; rfl
  | cons a as ih =>
    intro ks r r' e n
    cases ks with
    | nil => simp at e
    | cons k ks =>
      obtain ⟨v, vs1, rfl, r1, r2⟩ := r.uncons
      obtain ⟨v', vs2, rfl, r1', r2'⟩ := r'.uncons
      simp only [List.map_cons, List.cons.injEq] at e
      simp only [List.zip_cons_cons, List.all_cons, Bool.and_eq_true]
      exact ⟨sameBits_one r1 r1' e.1 n, ih r2 r2' e.2 n⟩

theorem sameBits_key {sh : KShape} {v v' : Value} {a : AV} (r : Rep w g v a) (r' : Rep w g v' a) (e : sh.ok a = true) : Instr.sameBits 10000 v v' = true := by
  cases sh with
  | one k => exact sameBits_one r r' (by simpa [KShape.ok] using e) _
  | many ks =>
    obtain ⟨vs, cells, rfl, rfl, r1, e1⟩ := many_rep r e
    obtain ⟨vs', cells', rfl, ha, r2, _⟩ := many_rep r' e
    cases ha
    have hl : vs.length = vs'.length := by rw [r1.1, r2.1]
    have := sameBits_all r1 r2 e1 9999
    simp only [Instr.sameBits]
    simp [hl]
    simpa using this

theorem eff_mapSet (D : Disj h hf) (R : Rel w (h.un hf)) {K : AV → AHeap → Prop} {kt et : TypeId} {ty : TypeId} (hu : P.underlying ty = some (.map kt et)) {b : Nat} {sh : KShape} {es : List (AV × AV)} (hb : h b = some (.map sh es))
    (hs : shapeT P kt = some sh) {vk vx : Value} {k x : AV} (rk : Rep w (h.un hf) vk k) (rx : Rep w (h.un hf) vx x) (hk : sh.ok k = true) (hK : K .undef (h.upd b (.map sh (mapSet es k x)))) (hrun : (execOp ρ o) = (do Instr.mapUpdate ty (.map (some b)) vk vx; pure .skip)) :
    EffOut P w h hf ρ o K := by
  obtain ⟨ents, clock, h1, h2, h3, h4⟩ := R b _ (AHeap.un_some hb)
  have hE : RepE w (h.un hf) ents.toList es := ⟨by simpa using h2, fun i hi hj => by have := h4 i hi (by simpa using hj); simpa using this⟩
  obtain ⟨r, hr1, hr2⟩ := run_findKey (P := P) hs rk hk hE h3
  have hck := run_checkKey (P := P) hs rk hk false
  have mapOk : ∀ e ∈ mapSet es k x, sh.ok e.1 = true := by
    intro e he
    cases hg : mapGet es k with
    | none => rw [mapSet_none hg] at he
              rcases List.mem_append.1 he with he | he
              · exact h3 e he
              · simp at he; subst he; exact hk
    | some a =>
      cases r with
      | none => simp [FoundAt, hg] at hr2
      | some p =>
        obtain ⟨j, _, _, _, _, _, hj⟩ := hr2
        obtain ⟨_, _, e3⟩ := mapSet_some (v := x) hj
        rw [e3] at he
        rcases List.mem_or_eq_of_mem_set he with he | he
        · exact h3 e he
        · subst he; exact hk
  cases r with
  | none =>
    have hg : mapGet es k = none := hr2
    rw [mapSet_none hg] at hK mapOk
    obtain ⟨e1, e2, e3⟩ := eff_put (c := .map sh (es ++ [(k, x)])) (ob' := .map (ents.push { key := vk, val := vx, born := clock }) (clock + 1)) D R hb h1 (fun _ _ _ h => by cases h) (fun xx => by
      refine ⟨_, _, World.putObj_heap_same (Array.getElem?_eq_some_iff.1 h1).1, by simp [h2], mapOk, ?_⟩
      intro i hi hj
      have hi2 : i < es.length ∨ i = es.length := by simp at hi; omega
      rcases hi2 with hi2 | hi2
      · have hi3 : i < ents.size := by omega
        have := h4 i hi2 hi3
        simp only [Array.getElem_push, hi3, dite_true, List.getElem_append_left hi2]
        exact ⟨this.1.ext xx, this.2.ext xx⟩
      · subst hi2
        have : ¬ es.length < ents.size := by omega
        simp only [Array.getElem_push, this, dite_false]
        simp
        exact ⟨rk.ext xx, rx.ext xx⟩)
    refine ⟨Go.undef, _, _, _, .inr ⟨?_, rfl⟩, hK, .undef _, e1, e2, e3⟩
    rw [hrun]
    simp only [Sem.run_bind, Instr.mapUpdate, run_underlying' hu, Result.andThen, run_getObj h1 (fun _ _ _ h => by cases h), hck, hr1, run_setObj h1 (fun _ _ _ h => by cases h), Sem.run_pure]
  | some p =>
    obtain ⟨i, y⟩ := p
    obtain ⟨j, a, hij, hg, _, ⟨hj, _⟩, hidx⟩ := hr2
    obtain ⟨hjl, hjk, hset⟩ := mapSet_some (v := x) hidx
    have hij' : i = j := by omega
    subst hij'
    have hi3 : i < ents.size := by simpa using hj
    have hkey := (h4 i hjl hi3).1
    rw [hjk] at hkey
    have hsb := sameBits_key hkey rk hk
    rw [hset] at hK mapOk
    obtain ⟨e1, e2, e3⟩ := eff_put (c := .map sh (es.set i (k, x))) (ob' := .map (ents.modify i fun e => { e with key := vk, val := vx }) clock) D R hb h1 (fun _ _ _ h => by cases h) (fun xx => by
      refine ⟨_, _, World.putObj_heap_same (Array.getElem?_eq_some_iff.1 h1).1, by simp [h2], mapOk, ?_⟩
      intro l hl hl2
      simp only [List.getElem_set, Array.getElem_modify]
      simp only [List.length_set] at hl
      split
      · next hil => exact ⟨rk.ext xx, rx.ext xx⟩
      · next hil =>
        have := h4 l hl (by omega)
        exact ⟨this.1.ext xx, this.2.ext xx⟩)
    refine ⟨Go.undef, _, _, _, .inr ⟨?_, rfl⟩, hK, .undef _, e1, e2, e3⟩
    rw [hrun]
    simp only [Sem.run_bind, Instr.mapUpdate, run_underlying' hu, Result.andThen, run_getObj h1 (fun _ _ _ h => by cases h), hck, hr1]
    have hold : ((ents[i]?).map (·.key)).getD vk = ents[i].key := by simp [hi3]
    simp only [hold, Instr.keyThatStays, hsb, if_true, Sem.run_pure, run_setObj h1 (fun _ _ _ h => by cases h)]

theorem zeroV_sound {et : TypeId} {z : AV} (e : zeroV P et = some z) : ∃ v, (zeroValue et).run P w = .ok v w ∧ Rep w g v z := by
  unfold zeroV at e
  cases hi : P.info? et with
  | none => simp [hi] at e
  | some i =>
    simp only [hi, Option.bind_some] at e
    split at e
    · next v hz =>
      split at e
      · cases e
      · next a _ hx =>
        simp only [Option.some.injEq] at e
        subst e
        exact ⟨v, by simp [zeroValue, typeInfo, hi, hz], cval_rep v⟩
    · cases e

theorem eff_lookup (D : Disj h hf) (R : Rel w (h.un hf)) (hρ : RepO w (h.un hf) ρ t) {K : AV → AHeap → Prop} {ty : TypeId} {m k : Operand} {ok : Bool} (ho : o.op = .lookup ty m k ok) {kt et : TypeId} (hu : P.underlying ty = some (.map kt et))
    {z : AV} (hz : zeroV P et = some z) {b : Nat} (hm : evalA t m = .map b) {sh : KShape} {es : List (AV × AV)} (hb : h b = some (.map sh es)) (hs : shapeT P kt = some sh) (hk : sh.ok (evalA t k) = true)
    (hK : K (if ok then .tup [(mapGet es (evalA t k)).getD z, .bool (mapGet es (evalA t k)).isSome] else (mapGet es (evalA t k)).getD z) h) : EffOut P w h hf ρ o K := by
  obtain ⟨ents, clock, h1, h2, h3, h4⟩ := R b _ (AHeap.un_some hb)
  have hE : RepE w (h.un hf) ents.toList es := ⟨by simpa using h2, fun i hi hj => by have := h4 i hi (by simpa using hj); simpa using this⟩
  obtain ⟨r, hr1, hr2⟩ := run_findKey (P := P) hs (hρ k) hk hE h3
  have hck := run_checkKey (P := P) hs (hρ k) hk ents.isEmpty
  have hmv := (hm ▸ hρ m : Rep w (h.un hf) (ρ m) (.map b)).inv_map
  obtain ⟨zv, hz1, hz2⟩ := zeroV_sound (P := P) (w := w) (g := h.un hf) hz
  obtain ⟨v, bb, hrun, hv, hbb⟩ : ∃ v bb, (Instr.lookup ty (ρ m) (ρ k) ok).run P w = .ok (if ok then .tuple #[v, .bool bb] else v) w ∧ Rep w (h.un hf) v ((mapGet es (evalA t k)).getD z) ∧ bb = (mapGet es (evalA t k)).isSome := by
    cases r with
    | none =>
      have hg : mapGet es (evalA t k) = none := hr2
      refine ⟨zv, false, ?_, by rw [hg]; exact hz2, by rw [hg]; rfl⟩
      simp only [Instr.lookup, Sem.run_bind, run_underlying' hu, Result.andThen, hmv, run_getObj h1 (fun _ _ _ h => by cases h), Sem.run_pure, hck, hr1, hz1]
    | some p =>
      obtain ⟨i, y⟩ := p
      obtain ⟨j, a, _, hg, hya, _, _⟩ := hr2
      refine ⟨y, true, ?_, by rw [hg]; exact hya, by rw [hg]; rfl⟩
      simp only [Instr.lookup, Sem.run_bind, run_underlying' hu, Result.andThen, hmv, run_getObj h1 (fun _ _ _ h => by cases h), Sem.run_pure, hck, hr1]
  refine ⟨if ok then .tuple #[v, .bool bb] else v, w, _, h, .inl ?_, hK, ?_, D, R, .refl _ _ _⟩
  · simp [execOp, ho, hrun]
  · cases ok with
    | true => exact .tup (vs := [v, .bool bb]) rfl (RepL.cons hv (.cons (hbb ▸ .bool bb) .nil)).2
    | false => exact hv

theorem minA_sound {mx : Bool} : ∀ {as : List AV} {vs : List Value} {a r : AV} {v : Value}, Rep w g v a → RepL w g vs as → minA mx a as = some r →
    ∃ x, (vs.foldlM (if mx then Builtin.max2 else Builtin.min2) v).run P w = .ok x w ∧ Rep w g x r
  | [], vs, a, r, v, rv, rs, e => by
    have : vs = [] := List.eq_nil_of_length_eq_zero (by have := rs.1; simpa using this)
    subst this
    cases a <;> simp [minA] at e <;> subst e <;> exact ⟨v, rfl, rv⟩
  | a' :: as, vs, a, r, v, rv, rs, e => by
    obtain ⟨v', vs', rfl, r1, r2⟩ := rs.uncons
    cases a <;> cases a' <;> simp [minA] at e
    rename_i k x k' y
    have e1 := rv.inv_int
    have e2 := r1.inv_int
    subst e1; subst e2
    obtain ⟨z, h1, h2⟩ := minA_sound (mx := mx) (.int k (if (if mx then x < y else y < x) then y else x)) r2 (by simpa using e)
    refine ⟨z, ?_, h2⟩
    rw [List.foldlM_cons, Sem.run_bind]
    cases mx with
    | true => simpa [Builtin.max2, Result.andThen] using h1
    | false => simpa [Builtin.min2, Result.andThen] using h1

/-- What an append or a copy reads. -/
theorem appXs_sound (R : Rel w (h.un hf)) {es k : Nat} {x : AV} {xs : List AV} {vx : Value} (rx : Rep w (h.un hf) vx x) (e : appXs h es x = some (k, xs)) :
    (Builtin.lenOf vx).run P w = .ok k w ∧ xs.length = k * es ∧ (∀ y ∈ xs, y.one = true) ∧ ∀ n, n ≤ k → ∃ vs : List Value, (Builtin.firstCells es n vx).run P w = .ok vs.toArray w ∧ RepL w (h.un hf) vs (xs.take (n * es)) := by
  unfold appXs at e
  have fromCells : ∀ {b off c : Nat} {cells : List AV}, Cells w (h.un hf) b off cells → cells.length = k * es → ∀ n, n ≤ k → ∃ vs : List Value, (Builtin.firstCells es n (.slice (some ⟨b, off, none⟩) k c)).run P w = .ok vs.toArray w ∧ RepL w (h.un hf) vs (cells.take (n * es)) := by
    intro b off c cells hc hl n hn
    obtain ⟨ho, us, h1, h2⟩ := hc
    have hle : n * es ≤ cells.length := by rw [hl]; exact Nat.mul_le_mul_right _ hn
    refine ⟨(List.range (n * es)).map us, ?_, by simp; omega, fun i hi hj => ?_⟩
    · simp only [Builtin.firstCells]
      exact run_loadCells (P := P) (fun j hj => h1 j (by omega))
    · simp only [List.getElem_map, List.getElem_range, List.getElem_take]
      exact h2 i (by simp at hj; omega)
  split at e
  · cases e
    rw [rx.inv_nilsl]
    exact ⟨rfl, by simp, by simp, fun n hn => ⟨[], by simp [Builtin.firstCells], by simp [RepL.nil]⟩⟩
  · next n cells =>
    split at e
    · next hl =>
      cases e
      by_cases hne : xs = []
      · subst hne
        obtain ⟨a, c, rfl, _⟩ := rx.inv_sl
        simp at hl
        refine ⟨rfl, by simpa using hl, by simp, fun n hn => ⟨[], ?_, by simp [RepL.nil]⟩⟩
        have : n * es = 0 := by
          rcases Nat.mul_eq_zero.1 hl.symm with h0 | h0
          · have : n = 0 := by omega
            simp [this]
          · simp [h0]
        cases a with
        | none => rfl
        | some a => simp [Builtin.firstCells, this, loadCells, loadCellsFrom]
      · obtain ⟨b, off, c, rfl, _, _, _, hc⟩ := cells_of_sl rx hne
        exact ⟨rfl, hl, hc.1, fromCells hc hl⟩
    · cases e
  · next b off n es' =>
    split at e
    · next cs hb =>
      split at e
      · next hc =>
        obtain ⟨rfl, hle⟩ := hc
        cases e
        obtain ⟨c, o2, rfl, _, hcl⟩ := rx.osl_cells R (AHeap.un_some hb)
        have hlen : ((cs.drop off).take (k * es')).length = k * es' := by rw [List.length_take]; omega
        exact ⟨rfl, hlen, hcl.1, fromCells hcl hlen⟩
      · cases e
    · cases e
  · next s =>
    split at e
    · next hes =>
      subst hes
      cases e
      obtain ⟨b, rfl, hbs⟩ := rx.inv_str
      have hsz : b.size = s.length := by rw [← hbs]; simp
      refine ⟨by simp [Builtin.lenOf, hsz], by simp, by simp [AV.one], fun n hn => ⟨(b.data.toList.take n).map fun b => .int .u8 b.toNat, ?_, ?_⟩⟩
      · simp only [Builtin.firstCells, Sem.run_pure]
        congr 1
        apply Array.toList_inj.1
        simp [List.extract_eq_take_drop]
      · refine ⟨by simp [← hbs], fun i hi hj => ?_⟩
        simp only [List.getElem_map, List.getElem_take, ← hbs]
        exact .int _ _
    · cases e
  · cases e

theorem nextslicecap_le {need old : Nat} (h : old < need) : Builtin.nextslicecap need old ≤ 2 * need + 192 := by
  unfold Builtin.nextslicecap
  split
  · omega
  · split
    · omega
    · have key : ∀ r c, c ≤ 2 * need + 192 → Builtin.growBy need r c ≤ 2 * need + 192 := by
        intro r
        induction r with
        | zero => intro c hc; exact hc
        | succ r ih =>
          intro c hc
          unfold Builtin.growBy
          split
          · exact hc
          · next hlt => exact ih _ (by omega)
      exact key 4 old (by omega)

theorem forced_append (need old : Nat) (e : TypeId) : (Question.appendCap need old e).forced = false := rfl

theorem rowT_cases {tx : TypeId} (h : rowT P tx = true) : (∃ e, P.underlying tx = some (.slice e)) ∨ P.underlying tx = some .string := by
  unfold rowT at h
  split at h
  · next e hu => exact .inl ⟨e, hu⟩
  · next hu => exact .inr hu
  · cases h

/-- An append that makes a new array. -/
theorem run_append_new {ts tx e : TypeId} {es by_ : Nat} {z : List AV} (he : elemT P ts = some (e, es, by_, z)) (hi : rowT P tx = true) {rt : TypeId} {base : Option Addr} {n c k : Nat} {vx : Value}
    (hgrow : c < n + k) (hsmall : n + k < 2 ^ 30) (hlen : (Builtin.lenOf vx).run P w = .ok k w) {olds news : List Value} (ho : (Builtin.firstCells es n (.slice base n c)).run P w.drew = .ok olds.toArray w.drew) (hn : (Builtin.firstCells es k vx).run P w.drew = .ok news.toArray w.drew)
    (hol : olds.length = n * es) (hnl : news.length = k * es) :
    ∃ cs : Array Value, ∃ cap, n + k ≤ cap ∧ cap < 2 ^ 63 ∧ cs.size = cap * es ∧ cs.toList.take ((n + k) * es) = olds ++ news ∧
      (Builtin.append_ #[ts, tx] rt #[.slice base n c, vx]).run P w = .ok (.slice (some ⟨w.heap.size, 0, none⟩) (n + k) cap) ((w.drew).alloc (.cells cs e)) := by
  obtain ⟨hu, hs, hb, hz, hzl, hby⟩ := elemT_spec he
  obtain ⟨zv, h1, h2, h3⟩ := zeroT_sound (P := P) (w := w.drew) (g := AHeap.empty) hz
  have hzs : zv.cells.size = es := by have := h2.1; simp at this; omega
  cases hinf : P.info? e with
  | none => simp [szT, hinf] at hs
  | some i =>
    have hby' : i.bytes = by_ := by simpa [bytesT, hinf] using hb
    have hti : (typeInfo e).run P w = .ok i w := by simp [typeInfo, hinf]
    have hti' : (typeInfo e).run P w.drew = .ok i w.drew := by simp [typeInfo, hinf]
    have hcap : Builtin.nextslicecap (n + k) c ≤ 2 * (n + k) + 192 := nextslicecap_le hgrow
    have hno : ¬ (Builtin.nextslicecap (n + k) c * i.bytes > 2 ^ 48) := by
      have : Builtin.nextslicecap (n + k) c * i.bytes ≤ (2 * (n + k) + 192) * 65536 := Nat.mul_le_mul hcap (by omega)
      omega
    obtain ⟨cap, hcap1, hcap2, hcap3⟩ : ∃ cap, (choose (.appendCap (n + k) c e)).run P w = .ok cap w.drew ∧ n + k ≤ cap ∧ cap < 2 ^ 63 :=
      ⟨(Question.appendCap (n + k) c e).cut (w.tape w.drawn (.appendCap (n + k) c e)), by simp [forced_append], by simp [Question.cut], by
        simp only [Question.cut]
        have := Nat.mod_lt (w.tape w.drawn (.appendCap (n + k) c e)) (show 2 ^ 63 - (n + k) > 0 by omega)
        omega⟩
    have hmax : ¬ (((n + k : Nat) : Int) > IntKind.i64.max ∧ (false = true ∨ i.bytes = 0)) := by
      simp only [IntKind.max, IntKind.signed, IntKind.bits, if_true]; omega
    refine ⟨olds.toArray ++ news.toArray ++ Builtin.zeroCells zv.cells (cap - (n + k)), cap, hcap2, hcap3, ?_, ?_, ?_⟩
    · simp only [Array.size_append, List.size_toArray, Builtin.zeroCells, Array.size_map, Array.size_range, hol, hnl, hzs]
      rw [← Nat.add_mul, ← Nat.add_mul]; congr 1; omega
    · simp only [Array.toList_append]
      rw [List.take_append_of_le_length (by simp [hol, hnl, Nat.add_mul]), List.take_of_length_le (by simp [hol, hnl, Nat.add_mul])]
    · have hz' : i.zero = some zv := by
        have := h1
        simp only [zeroValue, Sem.run_bind, hti', Result.andThen] at this
        cases hzi : i.zero with
        | none => rw [hzi] at this; simp at this
        | some z0 => rw [hzi] at this; simp at this; rw [this]
      have his : i.size = es := by simpa [szT, hinf] using hs
      subst his
      have hnn : ¬ (n + k ≤ c) := by omega
      have h63' : ¬ (9223372036854775807 < ((n : Int) + (k : Int))) := by omega
      have h48' : ¬ (281474976710656 < Builtin.nextslicecap (n + k) c * i.bytes) := by omega
      have hcap1' : (choose (.appendCap (n + k) c e)).run P w = .ok cap w.drew := hcap1
      have hcut : (Question.appendCap (n + k) c e).cut (w.tape w.drawn (.appendCap (n + k) c e)) = cap := by
        simp [forced_append] at hcap1
        exact hcap1
      rcases rowT_cases hi with ⟨e', hd⟩ | hd
      · simp [Builtin.append_, run_underlying' hu, run_underlying' hd, sizeOf, typeInfo, zeroValue, hinf, hz', hlen, hnn, h63', h48', forced_append, hcut, ho, hn, newRow]
        congr 2
        apply Array.ext'
        simp [List.append_assoc]
      · simp [Builtin.append_, run_underlying' hu, run_underlying' hd, sizeOf, typeInfo, zeroValue, hinf, hz', hlen, hnn, h63', h48', forced_append, hcut, ho, hn, newRow]
        congr 2
        apply Array.ext'
        simp [List.append_assoc]

/-- An append that has room. -/
theorem run_append_room' {ts tx e : TypeId} {es by_ : Nat} {z : List AV} (he : elemT P ts = some (e, es, by_, z)) (hi : rowT P tx = true) {rt : TypeId} {base : Option Addr} {n c k : Nat} {vx : Value}
    (hroom : n + k ≤ c) (hlen : (Builtin.lenOf vx).run P w = .ok k w) {news : List Value} (hn : (Builtin.firstCells es k vx).run P w = .ok news.toArray w) :
    (Builtin.append_ #[ts, tx] rt #[.slice base n c, vx]).run P w = ((match base with | some a => storeCells (a.add (n * es)) news | none => pure ()).run P w).andThen fun _ w' => .ok (.slice base (n + k) c) w' := by
  obtain ⟨hu, hs, hb, hz, hzl, hby⟩ := elemT_spec he
  cases hinf : P.info? e with
  | none => simp [szT, hinf] at hs
  | some i =>
    have his : i.size = es := by simpa [szT, hinf] using hs
    subst his
    rcases rowT_cases hi with ⟨e', hd⟩ | hd
    · cases base <;> simp [Builtin.append_, run_underlying' hu, run_underlying' hd, sizeOf, typeInfo, hinf, hlen, hroom, hn]
    · cases base <;> simp [Builtin.append_, run_underlying' hu, run_underlying' hd, sizeOf, typeInfo, hinf, hlen, hroom, hn]

theorem Rel.ofDrew (R : Rel w (h.un hf)) : Rel w.drew (h.un hf) := R.drew

theorem eff_append_keep (D : Disj h hf) (R : Rel w (h.un hf)) (hρ : RepO w (h.un hf) ρ t) {K : AV → AHeap → Prop} {args : Array Operand} {argTypes : Array TypeId} {s x : Operand} {ts tx : TypeId} (ho : o.op = .call { callee := .builtin .append, args, argTypes })
    (ha : args.toList = [s, x]) (hat : argTypes.toList = [ts, tx]) {e : TypeId} {es by_ : Nat} {z : List AV} (he : elemT P ts = some (e, es, by_, z)) (hi : rowT P tx = true)
    {k : Nat} {xs : List AV} (hxs : appXs h es (evalA t x) = some (k, xs)) {b off n : Nat} {cs : List AV} (hs : evalA t s = .osl b off n es) (hb : h b = some (.cells cs)) (hle : off + n * es ≤ cs.length) (hsm : n + k < 2 ^ 30)
    (k1 : K (.osl b off (n + k) es) (h.upd b (.cells (cs.take (off + n * es) ++ xs)))) (k2 : ∀ b', h b' = none → K (.osl b' 0 (n + k) es) (h.upd b' (.cells ((cs.drop off).take (n * es) ++ xs)))) : EffOut P w h hf ρ o K := by
  have ea : args = #[s, x] := by cases args; simpa using ha
  have eat : argTypes = #[ts, tx] := by cases argTypes; simpa using hat
  have hrun : ∀ v w', (Builtin.append_ #[ts, tx] o.type #[ρ s, ρ x]).run P w = .ok v w' → (execOp ρ o).run P w = .ok (.value v) w' := by
    intro v w' hr
    simp [execOp, ho, resolve, invoke, builtin, ea, eat, hr]
  obtain ⟨hl, hxl, hxo, hxc⟩ := appXs_sound (P := P) R (hρ x) hxs
  have Rd := R.ofDrew
  have hρx' : Rep w.drew (h.un hf) (ρ x) (evalA t x) := (hρ x).ext ((Ext.refl w _).drew)
  obtain ⟨_, _, _, hxc'⟩ := appXs_sound (P := P) Rd hρx' hxs
  obtain ⟨cp, o2, hsv, hncp, hO, arr, te, fr, ha1, ha2⟩ := (hs ▸ hρ s : Rep w (h.un hf) (ρ s) (.osl b off n es)).inv_osl
  obtain ⟨us, ty, h1, h2, h3, h4⟩ := R b _ (AHeap.un_some hb)
  rw [ha1] at h1
  cases h1
  have hfb : hf b = none := D.none_right hb
  by_cases hroom : n + k ≤ cp
  · obtain ⟨vs, hv1, hv2⟩ := hxc k (Nat.le_refl _)
    rw [List.take_of_length_le (by omega)] at hv2
    have hvl : vs.length = k * es := by have := hv2.1; omega
    have hfit : off + n * es + k * es ≤ arr.size := by rw [Nat.add_assoc, ← Nat.add_mul]; exact Nat.le_trans (Nat.add_le_add_left (Nat.mul_le_mul_right _ hroom) _) (by omega)
    obtain ⟨w', arr', e1, e2, e3, e4⟩ := run_storeCells (P := P) vs 0 w (off + n * es) arr te ha1 (by omega) (hv2.ones hxo)
    have hsz : arr'.size = arr.size := by
      have := congrArg List.length e4
      simp at this
      omega
    obtain ⟨x1, R1⟩ := R.upd (c := .cells (cs.take (off + n * es) ++ xs)) (AHeap.un_some hb) e2 (fun cs0 e0' fr0 hc => by rw [ha1] at hc; cases hc; exact ⟨arr', (0, 0), e3, hsz⟩) (fun x1 => by
      refine ⟨arr', te, e3, by rw [List.length_append, List.length_take]; omega, ?_, ?_⟩
      · intro y hy
        rcases List.mem_append.1 hy with hy | hy
        · exact h3 y (List.mem_of_mem_take hy)
        · exact hxo y hy
      · have r0 : RepL w (h.un hf) (arr.toList.take (off + n * es)) (cs.take (off + n * es)) := ⟨by simp; omega, fun i hi hj => by simpa using h4 i (by simp at hj; omega) (by simp at hi; omega)⟩
        have r1 := r0.append hv2
        have e5 : arr'.toList.take (cs.take (off + n * es) ++ xs).length = arr.toList.take (off + n * es) ++ vs := by
          rw [e4, Nat.add_zero, List.length_append, List.length_take, Nat.min_eq_left hle, hxl, ← hvl]
          rw [List.take_append_of_le_length (by simp; omega), List.take_of_length_le (by simp; omega)]
        rw [← e5] at r1
        intro i hi hj
        have h6 : i < (arr'.toList.take (cs.take (off + n * es) ++ xs).length).length := by have := r1.1; omega
        have := (r1.2 i h6 hi).ext x1
        simpa using this)
    refine ⟨.slice (some ⟨b, o2, none⟩) (n + k) cp, w', .osl b off (n + k) es, h.upd b (.cells (cs.take (off + n * es) ++ xs)), .inl (hrun _ _ ?_), k1, ?_, ?_, ?_, ?_⟩
    · rw [hsv, run_append_room' he hi hroom hl hv1]
      rcases hO.1 with rfl | hc0
      · simp only [add_none, e1, Result.andThen]
      · have hv0 : vs = [] := List.eq_nil_of_length_eq_zero (by rw [hvl, show k = 0 from by omega]; simp)
        subst hv0
        have e1' : (Result.ok () w : Result Unit) = .ok () w' := e1
        cases e1'
        rfl
    · exact .osl hroom hO ⟨arr', te, (0, 0), e3, by omega⟩
    · exact D.upd hfb
    · rw [AHeap.un_upd]; exact R1
    · exact .only (by rw [AHeap.un_upd]; exact x1) e2 hfb
  · obtain ⟨vs, hv1, hv2⟩ := hxc' k (Nat.le_refl _)
    rw [List.take_of_length_le (by omega)] at hv2
    have hvl : vs.length = k * es := by have := hv2.1; omega
    have hcells := ((Rel.cells Rd (AHeap.un_some (g := hf) hb)).drop off).take (n * es)
    rw [Nat.zero_add] at hcells
    obtain ⟨ho1, us, hu1, hu2⟩ := hcells
    have hcl : ((cs.drop off).take (n * es)).length = n * es := by simp; omega
    have hold : (Builtin.firstCells es n (.slice (some ⟨b, o2, none⟩) n cp)).run P w.drew = .ok ((List.range (n * es)).map us).toArray w.drew := by
      simp only [Builtin.firstCells]
      rcases hO.1 with rfl | hc0
      · exact run_loadCells (P := P) (fun j hj => hu1 j (by omega))
      · exact run_loadCells (P := P) (fun j hj => by rw [show n = 0 from by omega] at hj; simp at hj)
    have hor : RepL w.drew (h.un hf) ((List.range (n * es)).map us) ((cs.drop off).take (n * es)) := ⟨by simp; omega, fun i hi hj => by simp only [List.getElem_map, List.getElem_range]; exact hu2 i hj⟩
    obtain ⟨ncs, cap, c1, c5, c2, c3, c4⟩ := run_append_new (w := w) he hi (rt := o.type) (base := some ⟨b, o2, none⟩) (n := n) (c := cp) (by omega) hsm hl hold hv1 (by simp) hvl
    have hones : ∀ y ∈ (cs.drop off).take (n * es) ++ xs, y.one = true := by
      intro y hy
      rcases List.mem_append.1 hy with hy | hy
      · exact h3 y (List.mem_of_mem_drop (List.mem_of_mem_take hy))
      · exact hxo y hy
    obtain ⟨xx, R1⟩ := new_cells (w := w.drew) (g := h.un hf) Rd (e := e) (vs := ncs) (cs := (cs.drop off).take (n * es) ++ xs) (by
        rw [List.length_append, hcl, hxl, ← Nat.add_mul, c3]; exact hor.append hv2) hones
    have xx' : Ext w (h.un hf) (w.drew.alloc (.cells ncs e)) ((h.un hf).upd w.heap.size (.cells ((cs.drop off).take (n * es) ++ xs))) := ((Ext.refl w _).drew).trans xx
    exact eff_new D R (v := .slice (some ⟨w.heap.size, 0, none⟩) (n + k) cap) (hrun _ _ (by rw [hsv]; exact c4)) xx' R1 (k2 _ (fresh_both R).1) (.osl c1 ⟨.inl rfl, c5⟩ ⟨ncs, e, (0, 0), alloc_at w.drew _, by omega⟩) (alloc_old w.drew _)
theorem EffOut.part {K K0 : AV → AHeap → Prop} (e : EffOut P w h hf ρ o K0) (hk : ∀ r h', K0 r h' → K r h' ∨ ∃ b, hf b = none ∧ K r (h'.del b)) : EffOut P w h hf ρ o K := by
  obtain ⟨v, w', r, h', hrun, k0, rv, D', R', S⟩ := e
  rcases hk r h' k0 with k | ⟨b, hfb, k⟩
  · exact ⟨v, w', r, h', hrun, k, rv, D', R', S⟩
  · have heq : (h'.del b).un hf = (h'.un hf).del b := AHeap.un_del hfb
    have x2 : Ext w' (h'.un hf) w' ((h'.un hf).del b) :=
      ⟨Nat.le_refl _, fun i _ hi => ⟨by by_cases e : i = b <;> simp [AHeap.del, e, hi], rfl⟩, fun i cs e fr hc => ⟨cs, fr, hc, rfl⟩, rfl, rfl, rfl⟩
    refine ⟨v, w', r, h'.del b, hrun, k, by rw [heq]; exact rv.ext x2, D'.del, ?_, ⟨by rw [heq]; exact S.ext.trans x2, S.fr⟩⟩
    rw [heq]
    exact R'.step x2 (fun i c hc => by
      by_cases e : i = b
      · subst e; simp at hc
      · rw [AHeap.del_ne e] at hc; exact .inl ⟨hc, rfl⟩)
theorem eff_append_off (D : Disj h hf) (R : Rel w (h.un hf)) (hρ : RepO w (h.un hf) ρ t) {K : AV → AHeap → Prop} {args : Array Operand} {argTypes : Array TypeId} {s x : Operand} {ts tx : TypeId} (ho : o.op = .call { callee := .builtin .append, args, argTypes })
    (ha : args.toList = [s, x]) (hat : argTypes.toList = [ts, tx]) {e : TypeId} {es by_ : Nat} {z : List AV} (he : elemT P ts = some (e, es, by_, z)) (hi : rowT P tx = true)
    {k : Nat} {xs : List AV} (hxs : appXs h es (evalA t x) = some (k, xs)) {b off n : Nat} {cs : List AV} (hs : evalA t s = .osl b off n es) (hb : h b = some (.cells cs)) (hle : cs.length = off + n * es) (hsm : n + k < 2 ^ 30)
    (hK : ∀ b' (pre : List AV), (h.del b) b' = none → K (.osl b' pre.length (n + k) es) ((h.del b).upd b' (.cells (pre ++ (cs.drop off ++ xs))))) : EffOut P w h hf ρ o K := by
  have hfb : hf b = none := D.none_right hb
  refine EffOut.part (K0 := fun r h' => K r h' ∨ ∃ b, hf b = none ∧ K r (h'.del b)) ?_ (fun _ _ q => q)
  refine eff_append_keep D R hρ ho ha hat he hi hxs hs hb (by omega) hsm (.inl ?_) fun b' hb' => .inr ⟨b, hfb, ?_⟩
  · have := hK b (cs.take off) AHeap.del_same
    rw [AHeap.upd_del, ← List.append_assoc, List.take_append_drop, List.length_take, Nat.min_eq_left (by omega)] at this
    rw [List.take_of_length_le (by omega)]
    exact this
  · have hne : b' ≠ b := fun q => by rw [q, hb] at hb'; cases hb'
    have := hK b' [] (by rw [AHeap.del_ne hne]; exact hb')
    rw [AHeap.del_upd_ne hne]
    rw [List.take_of_length_le (by simp; omega)]
    exact this

theorem eff_append (D : Disj h hf) (R : Rel w (h.un hf)) (hρ : RepO w (h.un hf) ρ t) {K : AV → AHeap → Prop} {args : Array Operand} {argTypes : Array TypeId} {s x : Operand} {ts tx : TypeId} (ho : o.op = .call { callee := .builtin .append, args, argTypes })
    (ha : args.toList = [s, x]) (hat : argTypes.toList = [ts, tx]) {e : TypeId} {es by_ : Nat} {z : List AV} (he : elemT P ts = some (e, es, by_, z)) (hi : rowT P tx = true)
    {k : Nat} {xs : List AV} (hxs : appXs h es (evalA t x) = some (k, xs))
    (hK : match evalA t s with
      | .nilsl => (k = 0 → K .nilsl h) ∧ (k ≠ 0 → k < 2 ^ 30 ∧ ∀ b, h b = none → K (.osl b 0 k es) (h.upd b (.cells xs)))
      | .osl b 0 n es' => es' = es ∧ n + k < 2 ^ 30 ∧ match h b with
        | some (.cells cs) => cs.length = n * es ∧ ∀ b', (h.del b) b' = none → K (.osl b' 0 (n + k) es) ((h.del b).upd b' (.cells (cs ++ xs)))
        | _ => False
      | .osl b (off + 1) n es' => es' = es ∧ n + k < 2 ^ 30 ∧ match h b with
        | some (.cells cs) => cs.length = off + 1 + n * es ∧ ∀ b' (pre : List AV), (h.del b) b' = none → K (.osl b' pre.length (n + k) es) ((h.del b).upd b' (.cells (pre ++ (cs.drop (off + 1) ++ xs))))
        | _ => False
      | _ => False) : EffOut P w h hf ρ o K := by
  have ea : args = #[s, x] := by cases args; simpa using ha
  have eat : argTypes = #[ts, tx] := by cases argTypes; simpa using hat
  have hrun : ∀ v w', (Builtin.append_ #[ts, tx] o.type #[ρ s, ρ x]).run P w = .ok v w' → (execOp ρ o).run P w = .ok (.value v) w' := by
    intro v w' hr
    simp [execOp, ho, resolve, invoke, builtin, ea, eat, hr]
  obtain ⟨hl, hxl, hxo, hxc⟩ := appXs_sound (P := P) R (hρ x) hxs
  have Rd := R.ofDrew
  have hρx' : Rep w.drew (h.un hf) (ρ x) (evalA t x) := (hρ x).ext ((Ext.refl w _).drew)
  obtain ⟨_, _, _, hxc'⟩ := appXs_sound (P := P) Rd hρx' hxs
  split at hK
  · next hs =>
    have hsv := (hs ▸ hρ s : Rep w (h.un hf) (ρ s) .nilsl).inv_nilsl
    obtain ⟨k1, k2⟩ := hK
    by_cases hk0 : k = 0
    · subst hk0
      obtain ⟨vs, hv1, hv2⟩ := hxc 0 (Nat.le_refl _)
      refine ⟨.slice none 0 0, w, .nilsl, h, .inl (hrun _ _ ?_), k1 rfl, .nilsl, D, R, .refl _ _ _⟩
      rw [hsv, run_append_room' he hi (by omega) hl hv1]; rfl
    · obtain ⟨hsm, k3⟩ := k2 hk0
      obtain ⟨vs, hv1, hv2⟩ := hxc' k (Nat.le_refl _)
      have hvl : vs.length = k * es := by have := hv2.1; rw [List.take_of_length_le (by omega)] at this; omega
      obtain ⟨cs, cap, c1, c5, c2, c3, c4⟩ := run_append_new (w := w) he hi (rt := o.type) (base := none) (n := 0) (c := 0) (by omega) (by omega) hl (olds := []) rfl hv1 (by simp) hvl
      simp only [Nat.zero_add, List.nil_append] at c1 c3 c4
      rw [List.take_of_length_le (by omega)] at hv2
      obtain ⟨xx, R1⟩ := new_cells (w := w.drew) (g := h.un hf) Rd (e := e) (vs := cs) (cs := xs) (by rw [hxl, c3]; exact hv2) hxo
      have xx' : Ext w (h.un hf) (w.drew.alloc (.cells cs e)) ((h.un hf).upd w.heap.size (.cells xs)) := ((Ext.refl w _).drew).trans xx
      exact eff_new D R (v := .slice (some ⟨w.heap.size, 0, none⟩) k cap) (hrun _ _ (by rw [hsv]; exact c4)) xx' R1 (k3 _ (fresh_both R).1) (.osl c1 ⟨.inl rfl, c5⟩ ⟨cs, e, (0, 0), alloc_at w.drew _, by omega⟩) (alloc_old w.drew _)
  · next b n es' hs =>
    obtain ⟨rfl, hsm, hK⟩ := hK
    split at hK
    · next cs hb =>
      obtain ⟨hcl, hK⟩ := hK
      obtain ⟨cp, o2, hsv, hncp, hO, arr, te, fr, ha1, ha2⟩ := (hs ▸ hρ s : Rep w (h.un hf) (ρ s) (.osl b 0 n es')).inv_osl
      obtain ⟨us, ty, h1, h2, h3, h4⟩ := R b _ (AHeap.un_some hb)
      rw [ha1] at h1
      cases h1
      have hfb : hf b = none := D.none_right hb
      by_cases hroom : n + k ≤ cp
      · -- there is room
        obtain ⟨vs, hv1, hv2⟩ := hxc k (Nat.le_refl _)
        rw [List.take_of_length_le (by omega)] at hv2
        have hvl : vs.length = k * es' := by have := hv2.1; omega
        have hfit : n * es' + k * es' ≤ arr.size := by rw [← Nat.add_mul]; exact Nat.le_trans (Nat.mul_le_mul_right _ hroom) (by omega)
        obtain ⟨w', arr', e1, e2, e3, e4⟩ := run_storeCells (P := P) vs 0 w (n * es') arr te ha1 (by omega) (hv2.ones hxo)
        have hsz : arr'.size = arr.size := by
          have := congrArg List.length e4
          simp at this
          omega
        obtain ⟨x1, R1⟩ := R.upd (c := .cells (cs ++ xs)) (AHeap.un_some hb) e2 (fun cs0 e0' fr0 hc => by rw [ha1] at hc; cases hc; exact ⟨arr', (0, 0), e3, hsz⟩) (fun x1 => by
          refine ⟨arr', te, e3, by rw [List.length_append]; omega, ?_, ?_⟩
          · intro y hy
            rcases List.mem_append.1 hy with hy | hy
            · exact h3 y hy
            · exact hxo y hy
          · have r0 : RepL w (h.un hf) (arr.toList.take (n * es')) cs := ⟨by simp; omega, fun i hi hj => by simpa using h4 i hj (by simp at hi; omega)⟩
            have r1 := r0.append hv2
            have e5 : arr'.toList.take (cs ++ xs).length = arr.toList.take (n * es') ++ vs := by
              rw [e4, Nat.add_zero, List.length_append, hcl, hxl, ← hvl]
              rw [List.take_append_of_le_length (by simp; omega), List.take_of_length_le (by simp; omega)]
            rw [← e5] at r1
            intro i hi hj
            have h6 : i < (arr'.toList.take (cs ++ xs).length).length := by have := r1.1; omega
            have := (r1.2 i h6 hi).ext x1
            simpa using this)
        have hd : (h.del b) b = none := AHeap.del_same
        refine ⟨.slice (some ⟨b, o2, none⟩) (n + k) cp, w', .osl b 0 (n + k) es', (h.del b).upd b (.cells (cs ++ xs)), .inl (hrun _ _ ?_), hK b hd, ?_, ?_, ?_, ?_⟩
        · rw [hsv, run_append_room' he hi hroom hl hv1]
          rcases hO.1 with rfl | hc0
          · simp only [add_none, Nat.zero_add, e1, Result.andThen]
          · have hv0 : vs = [] := List.eq_nil_of_length_eq_zero (by rw [hvl, show k = 0 from by omega]; simp)
            subst hv0
            have e1' : (Result.ok () w : Result Unit) = .ok () w' := e1
            cases e1'
            rfl
        · exact .osl hroom hO ⟨arr', te, (0, 0), e3, by omega⟩
        · exact (D.del).upd hfb
        · rw [AHeap.upd_del, AHeap.un_upd]; exact R1
        · exact .only (by rw [AHeap.upd_del, AHeap.un_upd]; exact x1) e2 hfb
      · -- a new array
        obtain ⟨vs, hv1, hv2⟩ := hxc' k (Nat.le_refl _)
        rw [List.take_of_length_le (by omega)] at hv2
        have hvl : vs.length = k * es' := by have := hv2.1; omega
        have hcells := Rel.cells Rd (AHeap.un_some (g := hf) hb)
        obtain ⟨ho1, us, hu1, hu2⟩ := hcells
        have hold : (Builtin.firstCells es' n (.slice (some ⟨b, o2, none⟩) n cp)).run P w.drew = .ok ((List.range (n * es')).map us).toArray w.drew := by
          simp only [Builtin.firstCells]
          rcases hO.1 with rfl | hc0
          · exact run_loadCells (P := P) (fun j hj => by have := hu1 j (by omega); simpa using this)
          · exact run_loadCells (P := P) (fun j hj => by rw [show n = 0 from by omega] at hj; simp at hj)
        have hor : RepL w.drew (h.un hf) ((List.range (n * es')).map us) cs := ⟨by simp; omega, fun i hi hj => by simp only [List.getElem_map, List.getElem_range]; exact hu2 i hj⟩
        obtain ⟨ncs, cap, c1, c5, c2, c3, c4⟩ := run_append_new (w := w) he hi (rt := o.type) (base := some ⟨b, o2, none⟩) (n := n) (c := cp) (by omega) hsm hl hold hv1 (by simp) hvl
        obtain ⟨xx, R1⟩ := new_cells (w := w.drew) (g := h.un hf) Rd (e := e) (vs := ncs) (cs := cs ++ xs) (by
            rw [List.length_append, hcl, hxl, ← Nat.add_mul, c3]; exact hor.append hv2) (by
            intro y hy
            rcases List.mem_append.1 hy with hy | hy
            · exact h3 y hy
            · exact hxo y hy)
        have xx' : Ext w (h.un hf) (w.drew.alloc (.cells ncs e)) ((h.un hf).upd w.heap.size (.cells (cs ++ xs))) := ((Ext.refl w _).drew).trans xx
        obtain ⟨f1, f2⟩ := fresh_both R
        have hne : w.heap.size ≠ b := fun e => by rw [e, hb] at f1; cases f1
        have hd : (h.del b) w.heap.size = none := by rw [AHeap.del_ne hne]; exact f1
        have heq : ((h.del b).upd w.heap.size (.cells (cs ++ xs))).un hf = ((h.un hf).upd w.heap.size (.cells (cs ++ xs))).del b := by
          rw [AHeap.un_upd, AHeap.un_del hfb, AHeap.del_upd_ne hne]
        have x2 : Ext (w.drew.alloc (.cells ncs e)) ((h.un hf).upd w.heap.size (.cells (cs ++ xs))) (w.drew.alloc (.cells ncs e)) (((h.un hf).upd w.heap.size (.cells (cs ++ xs))).del b) :=
          ⟨Nat.le_refl _, fun i _ hi => ⟨by by_cases e : i = b <;> simp [AHeap.del, e, hi], rfl⟩, fun i cs e fr hc => ⟨cs, fr, hc, rfl⟩, rfl, rfl, rfl⟩
        have R2 : Rel (w.drew.alloc (.cells ncs e)) (((h.un hf).upd w.heap.size (.cells (cs ++ xs))).del b) := R1.step x2 (fun i c hc => by
          by_cases e : i = b
          · subst e; simp at hc
          · rw [AHeap.del_ne e] at hc; exact .inl ⟨hc, rfl⟩)
        refine ⟨.slice (some ⟨w.heap.size, 0, none⟩) (n + k) cap, w.drew.alloc (.cells ncs e), .osl w.heap.size 0 (n + k) es', (h.del b).upd w.heap.size (.cells (cs ++ xs)), .inl (hrun _ _ (by rw [hsv]; exact c4)), hK _ hd,
          .osl c1 ⟨.inl rfl, c5⟩ ⟨ncs, e, (0, 0), alloc_at w.drew _, by omega⟩, (D.del).upd f2, ?_, ?_⟩
        · rw [heq]; exact R2
        · refine ⟨by rw [heq]; exact xx'.trans x2, fun i hi => alloc_old w.drew _ i ?_⟩
          cases hc : hf i with
          | none => exact absurd hc hi
          | some c =>
            have hlt : i < w.heap.size := R.lt (c := c) (by rw [D.un_comm]; exact AHeap.un_some hc)
            exact hlt
    · exact hK.elim
  · next b off n es' hs =>
    obtain ⟨rfl, hsm, hK⟩ := hK
    split at hK
    · next cs hb => exact eff_append_off D R hρ ho ha hat he hi hxs hs hb hK.1 hsm hK.2
    · exact hK.elim
  · exact hK.elim

theorem eff_copy (D : Disj h hf) (R : Rel w (h.un hf)) (hρ : RepO w (h.un hf) ρ t) {K : AV → AHeap → Prop} {args : Array Operand} {argTypes : Array TypeId} {d x : Operand} {td tx : TypeId} (ho : o.op = .call { callee := .builtin .copy, args, argTypes })
    (ha : args.toList = [d, x]) (hat : argTypes.toList = [td, tx]) {e : TypeId} {es by_ : Nat} {z : List AV} (he : elemT P td = some (e, es, by_, z)) {k : Nat} {xs : List AV} (hxs : appXs h es (evalA t x) = some (k, xs))
    {b off n : Nat} (hd : evalA t d = .osl b off n es) {cs : List AV} (hb : h b = some (.cells cs)) (hle : off + n * es ≤ cs.length) (hK : K (.int .i64 (min k n)) (h.upd b (.cells (splice cs off (xs.take (min k n * es)))))) : EffOut P w h hf ρ o K := by
  have ea : args = #[d, x] := by cases args; simpa using ha
  have eat : argTypes = #[td, tx] := by cases argTypes; simpa using hat
  obtain ⟨hu, hs, _, _, _, _⟩ := elemT_spec he
  obtain ⟨hl, hxl, hxo, hxc⟩ := appXs_sound (P := P) R (hρ x) hxs
  obtain ⟨vs, hv1, hv2⟩ := hxc (min k n) (Nat.min_le_left _ _)
  obtain ⟨cp, o2, hdv, hncp, hO, _⟩ := (hd ▸ hρ d : Rep w (h.un hf) (ρ d) (.osl b off n es)).inv_osl
  have hlen : (xs.take (min k n * es)).length ≤ n * es := by
    rw [List.length_take]
    exact Nat.le_trans (Nat.min_le_left _ _) (Nat.mul_le_mul_right _ (Nat.min_le_right _ _))
  obtain ⟨w', h4, h5, h6, h7⟩ := store_cells (P := P) R (AHeap.un_some hb) (off := off) hv2 (fun y hy => hxo y (List.mem_of_mem_take hy)) (by omega)
  have h4' : (storeCells ⟨b, o2, none⟩ vs).run P w = .ok () w' := by
    rcases hO.1 with rfl | hc0
    · exact h4
    · have hv0 : vs = [] := List.eq_nil_of_length_eq_zero (by have := hv2.1; rw [show n = 0 from by omega] at this; simpa using this)
      subst hv0
      exact h4
  refine ⟨.int .i64 (min k n), w', _, _, .inl ?_, hK, .int _ _, D.upd (D.none_right hb), by rw [AHeap.un_upd]; exact h6, .only (by rw [AHeap.un_upd]; exact h5) h7 (D.none_right hb)⟩
  have hmin : Nat.min k n = min k n := rfl
  simp [execOp, ho, resolve, invoke, builtin, ea, eat, Builtin.copy_, run_underlying' hu, hdv, hl, run_sizeOf hs, hmin, hv1, h4', goInt]
  omega

theorem effStep_sound (D : Disj h hf) (R : Rel w (h.un hf)) (hρ : RepO w (h.un hf) ρ t) {K : AV → AHeap → Prop} (e : effStep P t h o.op K) : EffOut P w h hf ρ o K := by
  unfold effStep at e
  split at e
  · next el ho =>
    split at e
    · next z hz => exact eff_alloc D R ho hz e
    · exact e.elim
  · next el x ho => exact eff_box D R hρ ho e.1 e.2
  · next ty len parts ho =>
    split at e
    · next e0 es b0 z he =>
      split at e
      · next cells hfl => exact eff_buildSlice D R hρ ho he hfl e.1 e.2.1 e.2.2
      · exact e.elim
    · exact e.elim
  · next ty a x ho =>
    split at e
    · next b off ha =>
      split at e
      · next cs hb => exact eff_store D R hρ ho ha hb e.1 e.2.1 e.2.2.1 e.2.2.2
      · exact e.elim
    · exact e.elim
  · next ty l c ho =>
    split at e
    · next e0 es b0 z he =>
      split at e
      · next kl lv kc cv hl hc => exact eff_makeSlice D R hρ ho he hl hc e.1 e.2.1 e.2.2.1 e.2.2.2
      · exact e.elim
    · exact e.elim
  · next ty ho =>
    split at e
    · next kt et hu =>
      split at e
      · next sh hs => exact eff_makeMap D R ho e
      · exact e.elim
    · exact e.elim
  · next ty m k x ho =>
    split at e
    · next kt et hu =>
      split at e
      · next b hm =>
        split at e
        · next sh es hb =>
          have hmv := (hm ▸ hρ m : Rep w (h.un hf) (ρ m) (.map b)).inv_map
          exact eff_mapSet D R hu hb e.1 (hρ k) (hρ x) e.2.1 e.2.2 (by simp only [execOp, ho, hmv])
        · exact e.elim
      · exact e.elim
    · exact e.elim
  · next ty m k x ho =>
    split at e
    · next kt et hu =>
      split at e
      · next b hm =>
        split at e
        · next sh es hb =>
          have hmv := (hm ▸ hρ m : Rep w (h.un hf) (ρ m) (.map b)).inv_map
          exact eff_mapSet D R hu hb e.1 (hρ k) (hρ x) e.2.1 e.2.2 (by simp only [execOp, ho, hmv])
        · exact e.elim
      · exact e.elim
    · exact e.elim
  · next ty m k ok ho =>
    split at e
    · next kt et hu =>
      split at e
      · next z b hz hm =>
        split at e
        · next sh es hb => exact eff_lookup D R hρ ho hu hz hm hb e.1 e.2.1 e.2.2
        · exact e.elim
      · exact e.elim
    · exact e.elim
  · next ty x ho =>
    split at e
    · next s hu hx => exact eff_range D R hρ ho hu hx e
    · exact e.elim
  · next it ho =>
    split at e
    · next b hit =>
      split at e
      · next s pos hb => exact eff_next D R hρ ho hit hb e.1 e.2
      · exact e.elim
    · exact e.elim
  · next args argTypes ho =>
    split at e
    · next s x ts tx ha hat =>
      split at e
      · next e0 es b0 z he =>
        obtain ⟨hi, e⟩ := e
        split at e
        · next k xs hxs => exact eff_append D R hρ ho ha hat he hi hxs e
        · exact e.elim
      · exact e.elim
    · exact e.elim
  · next args argTypes ho =>
    split at e
    · next d x td tx ha hat =>
      split at e
      · next e0 es b0 z he =>
        split at e
        · next k xs b off n es' hxs hd =>
          obtain ⟨rfl, e⟩ := e
          split at e
          · next cs hb => exact eff_copy D R hρ ho ha hat he hxs hd hb e.1 e.2
          · exact e.elim
        · exact e.elim
      · exact e.elim
    · exact e.elim
  · next args argTypes ho =>
    split at e
    · next x rest ha =>
      split at e
      · next r hr =>
        have hl := hρ.list rest
        obtain ⟨v, h1, h2⟩ := minA_sound (P := P) (hρ x) hl hr
        refine ⟨v, w, r, h, .inl ?_, e, h2, D, R, .refl _ _ _⟩
        have ea : (args.map ρ).toList = ρ x :: rest.map ρ := by simp [ha]
        simp only [Bool.false_eq_true, if_false] at h1
        simp [execOp, ho, resolve, invoke, builtin, Builtin.min_, ha, h1]
      · exact e.elim
    · exact e.elim
  · next args argTypes ho =>
    split at e
    · next x rest ha =>
      split at e
      · next r hr =>
        have hl := hρ.list rest
        obtain ⟨v, h1, h2⟩ := minA_sound (P := P) (hρ x) hl hr
        refine ⟨v, w, r, h, .inl ?_, e, h2, D, R, .refl _ _ _⟩
        simp only [if_true] at h1
        simp [execOp, ho, resolve, invoke, builtin, Builtin.max_, ha, h1]
      · exact e.elim
    · exact e.elim
  · obtain ⟨v, hv, e⟩ := (onSome_iff _ _).1 e
    exact eff_pure D R hρ hv e
end
end Go.AH

end

section
/-
  The abstract calculus: calls, operations, regions.
-/
namespace Go.AH
open Go

def fence (ro : Option Nat) : Fence := { Fence.wide with round := ro }

/-- The activation's own deferred calls: the marks of its loops over functions. -/
def DefersOk (w : World) (g : AHeap) (B : Nat) (ds : List Deferred) : Prop :=
  ∃ rs : List Nat, ds = rs.map (fun r => { target := .collected r, args := #[] }) ∧ rs.Nodup ∧ ∀ r ∈ rs, B ≤ r ∧ r < w.heap.size ∧ g r = none ∧ w.heap[r]? = some (.deferred (some []))

structure Good (w : World) (h hf : AHeap) (a : Act) (t : AF) (N B : Nat) : Prop where
  disj : Disj h hf
  rel : Rel w (h.un hf)
  frame : RepF w (h.un hf) a.tmps t
  size : a.tmps.size = N
  defers : DefersOk w (h.un hf) B a.defers
  base : B ≤ w.heap.size

/-- Where a step may lead. -/
def To (w : World) (h hf : AHeap) (N B : Nat) (K : AF → AHeap → Prop) (a' : Act) (w' : World) : Prop :=
  ∃ t' h', K t' h' ∧ Good w' h' hf a' t' N B ∧ Stp w h hf w' h'

/-- What a call hands back. -/
def RetTo (w : World) (h hf : AHeap) (R : AV → AHeap → Prop) (e : Ending) (w' : World) : Prop :=
  ∃ v r h', e = .returned v ∧ R r h' ∧ Disj h' hf ∧ Rel w' (h'.un hf) ∧ Rep w' (h'.un hf) v r ∧ Stp w h hf w' h'

def ACalls (P : Program) (f : FuncId) (args : List AV) (h : AHeap) (R : AV → AHeap → Prop) : Prop :=
  (∀ (args : Array Value) (w : World), (callFunc f args).run P w = .ok (.enter f args) w) ∧
  ∀ hf w (vs : List Value), Disj h hf → Rel w (h.un hf) → RepL w (h.un hf) vs args → CallsIn (fence none) 0 P f vs.toArray w (RetTo w h hf R)

/-- A call of a round's function. -/
def AYield (P : Program) (l : Nat) (args : List AV) (h : AHeap) (R : AV → AHeap → Prop) : Prop :=
  ∀ hf w (vs : List Value), Disj h hf → Rel w (h.un hf) → RepL w (h.un hf) vs args → YieldAt (fence none) 0 P l vs.toArray w (RetTo w h hf R)

def ACallV (P : Program) (fv : AV) (args : List AV) (h : AHeap) (R : AV → AHeap → Prop) : Prop :=
  match fv with
  | .fn (.func f) first caps => ACalls P f (first ++ args ++ caps) h R
  | .fn (.yield l) [] [] => AYield P l args h R
  | _ => False

/-- The function behind a method of an interface's value. -/
def methodA (P : Program) (ty : TypeId) (name : String) : Option FuncId := match P.info? ty, P.underlying ty with
  | some i, some u => match i.methods.find? (·.name == name) with
    | some m => match m.path.toList, m.func, u with
      | [], some (f, true), .pointer _ => some f
      | [], some (_, false), .pointer _ => none
      | [], some (f, false), _ => some f
      | _, _, _ => none
    | none => none
  | _, _ => none
/-- A call of a method. -/
def invRes (P : Program) (rv : AV) (m : String) (args : List AV) (h : AHeap) (K : AV → AHeap → Prop) : Prop := match rv with
  | .iface ty v => match methodA P ty m with
    | some g => ACalls P g (v :: args) h K
    | none => False
  | _ => False
theorem run_method {P : Program} {w : World} {ty : TypeId} {m : String} {g : FuncId} {v : Value} {n : Nat} (e : methodA P ty m = some g) : (method (n + 1) ty v m).run P w = .ok (g, v) w := by
  unfold methodA at e
  split at e
  · next i u hi hu =>
    split at e
    · next x hx =>
      have ti : (Go.typeInfo ty).run P w = .ok i w := by simp [typeInfo, hi]
      have ud : (Go.underlying ty).run P w = .ok u w := run_underlying' hu
      cases hp : x.path.toList with
      | cons _ _ => simp [hp] at e
      | nil =>
        cases hf : x.func with
        | none => simp [hp, hf] at e
        | some q =>
          obtain ⟨f, pr⟩ := q
          cases pr with
          | true =>
            cases u <;> simp [hp, hf] at e
            subst e
            simp [method, ti, Result.andThen, hx, hp, follow, hf, receiverAt, ud, Place.get]
          | false =>
            cases u <;> simp [hp, hf] at e
            all_goals
              subst e
              simp [method, ti, Result.andThen, hx, hp, follow, hf, receiverAt, ud, Place.get]
    · cases e
  · cases e
/-- One operation. -/
noncomputable def opRes (P : Program) (o : Oper) (t : AF) (h : AHeap) (K : AV → AHeap → Prop) : Prop :=
  match o.op with
  | .call { callee := .value f, args, .. } => ACallV P (evalA t f) (args.toList.map (evalA t)) h K
  | .call { callee := .invoke r m, args, .. } => invRes P (evalA t r) m (args.toList.map (evalA t)) h K
  | op => effStep P t h op K

noncomputable def opStep (P : Program) (o : Oper) (K : AF → AHeap → Prop) (t : AF) (h : AHeap) : Prop := opRes P o t h fun r h' => K (t.putO o.dst r) h'

/-- Is the operation's guard met? -/
def wantedA (ops : Array Oper) (t : AF) (o : Oper) : Option Bool :=
  match o.guard with
  | none => some true
  | some (j, want) =>
    match (ops[j]?).bind (·.dst) with
    | some d => match t d with
      | .bool b => some (b == want)
      | .tup [] => some false
      | _ => none
    | none => none

noncomputable def awpOps (P : Program) (ops : Array Oper) (K : AF → AHeap → Prop) : List Oper → AF → AHeap → Prop
  | [], t, h => K t h
  | o :: rest, t, h =>
    match wantedA ops t o with
    | some true => opStep P o (awpOps P ops K rest) t h
    | some false => awpOps P ops K rest (t.putO o.dst (.tup [])) h
    | none => False

section
variable {P : Program} {w : World} {h hf : AHeap} {t : AF} {a : Act} {o : Oper} {N B : Nat} {ro : Option Nat}

theorem DefersOk.ext {g g' : AHeap} {w' : World} {ds : List Deferred} (d : DefersOk w g B ds) (x : Ext w g w' g') : DefersOk w' g' B ds := by
  obtain ⟨rs, h1, h2, h3⟩ := d
  refine ⟨rs, h1, h2, fun r hr => ?_⟩
  obtain ⟨q1, q2, q3, q4⟩ := h3 r hr
  obtain ⟨e1, e2⟩ := x.keep r q2 q3
  exact ⟨q1, Nat.lt_of_lt_of_le q2 x.size, e1, e2.trans q4⟩

theorem Good.step {w' : World} {h' : AHeap} (G : Good w h hf a t N B) (D : Disj h' hf) (R : Rel w' (h'.un hf)) (x : Stp w h hf w' h') : Good w' h' hf a t N B :=
  ⟨D, R, G.frame.ext x.ext, G.size, G.defers.ext x.ext, Nat.le_trans G.base x.ext.size⟩

theorem Good.put {v : Value} {r : AV} (G : Good w h hf a t N B) {d : Option Nat} (hd : ∀ i, d = some i → i < N) (rv : Rep w (h.un hf) v r) : Good w h hf (a.put d v) (t.putO d r) N B := by
  cases d with
  | none => exact G
  | some i =>
    have hi := hd i rfl
    exact ⟨G.disj, G.rel, G.frame.put (by rw [G.size]; exact hi) rv, by simp [Act.put, G.size], G.defers, G.base⟩

theorem Good.skip (G : Good w h hf a t N B) {d : Option Nat} (hd : ∀ i, d = some i → i < N) : Good w h hf (a.put d Go.undef) (t.putO d (.tup [])) N B := G.put hd (.tup (vs := []) rfl fun i hi => absurd hi (Nat.not_lt_zero i))

theorem To.refl {K : AF → AHeap → Prop} (G : Good w h hf a t N B) (k : K t h) : To w h hf N B K a w := ⟨t, h, k, G, .refl _ _ _⟩
theorem To.mono {K K' : AF → AHeap → Prop} {a' : Act} {w' : World} (T : To w h hf N B K a' w') (hk : ∀ t h, K t h → K' t h) : To w h hf N B K' a' w' := by
  obtain ⟨t', h', k, G, x⟩ := T
  exact ⟨t', h', hk _ _ k, G, x⟩

theorem Good.eval (G : Good w h hf a t N B) (x : Operand) : Rep w (h.un hf) (a.eval x) (evalA t x) := G.frame.eval x
theorem Good.repO (G : Good w h hf a t N B) : RepO w (h.un hf) a.eval t := fun x => G.frame.eval x

/-! ### Monotony -/
theorem CallsIn.mono' {F : Fence} {n : Nat} {f : FuncId} {args : Array Value} {R R' : Ending → World → Prop} (c : CallsIn F n P f args w R) (hr : ∀ e w', R e w' → R' e w') : CallsIn F n P f args w R' := CallsIn.mono c hr

theorem RetTo.mono {R R' : AV → AHeap → Prop} {e : Ending} {w' : World} (x : RetTo w h hf R e w') (hr : ∀ r h', R r h' → R' r h') : RetTo w h hf R' e w' := by
  obtain ⟨v, r, h', e1, e2, e3⟩ := x
  exact ⟨v, r, h', e1, hr _ _ e2, e3⟩

theorem ACalls.mono {f : FuncId} {args : List AV} {R R' : AV → AHeap → Prop} (c : ACalls P f args h R) (hr : ∀ r h', R r h' → R' r h') : ACalls P f args h R' :=
  ⟨c.1, fun hf w vs D Rl rs => CallsIn.mono (c.2 hf w vs D Rl rs) fun _ _ x => x.mono hr⟩

theorem yieldAt_mono {F : Fence} {m l : Nat} {args : Array Value} {W : World} {R R' : Ending → World → Prop} (h : YieldAt F m P l args W R) (hr : ∀ e w, R e w → R' e w) : YieldAt F m P l args W R' := by
  obtain ⟨fn, tmps, assign, body, hy, hR⟩ := h
  exact ⟨fn, tmps, assign, body, hy, hR.mono hr⟩

theorem AYield.mono {l : Nat} {args : List AV} {R R' : AV → AHeap → Prop} (c : AYield P l args h R) (hr : ∀ r h', R r h' → R' r h') : AYield P l args h R' :=
  fun hf w vs D Rl rs => yieldAt_mono (c hf w vs D Rl rs) fun _ _ x => x.mono hr

theorem ACallV.mono {fv : AV} {args : List AV} {R R' : AV → AHeap → Prop} (c : ACallV P fv args h R) (hr : ∀ r h', R r h' → R' r h') : ACallV P fv args h R' := by
  unfold ACallV at *
  split at c
  · exact ACalls.mono c hr
  · exact AYield.mono c hr
  · exact c.elim

theorem effStep_mono {op : Op} {K K' : AV → AHeap → Prop} (e : effStep P t h op K) (hk : ∀ r h', K r h' → K' r h') : effStep P t h op K' := by
  unfold effStep onSome at *
  repeat' split at e
  all_goals first
    | exact e.elim
    | (simp_all only []; done)
    | skip
  all_goals simp_all

theorem invRes_mono {rv : AV} {m : String} {args : List AV} {K K' : AV → AHeap → Prop} (e : invRes P rv m args h K) (hk : ∀ r h', K r h' → K' r h') : invRes P rv m args h K' := by
  unfold invRes at *
  split at e
  · split at e
    · exact ACalls.mono e hk
    · exact e.elim
  · exact e.elim
theorem opRes_mono {K K' : AV → AHeap → Prop} (e : opRes P o t h K) (hk : ∀ r h', K r h' → K' r h') : opRes P o t h K' := by
  unfold opRes at *
  split
  · next heq => simp only [heq] at e; exact ACallV.mono e hk
  · next heq => simp only [heq] at e; exact invRes_mono e hk
  · next hne hne2 =>
    split at e
    · next heq => exact absurd heq (hne _ _ _)
    · next heq => exact absurd heq (hne2 _ _ _ _)
    · exact effStep_mono e hk

/-! ### One operation, in the model -/
theorem fence_calls {n : Nat} {f : FuncId} {args : Array Value} {R : Ending → World → Prop} (c : CallsIn (fence none) n P f args w R) : CallsIn (fence ro) n P f args w R := c
theorem fence_round {n l : Nat} {f : FuncId} {tmps : Array Value} {as body : Code} {R : Ending → World → Prop} (c : RoundIn (fence none) n P l f tmps as body w R) : RoundIn (fence ro) n P l f tmps as body w R := c

theorem semAt_of {ρ : Operand → Value} (hd : ∀ c, o.op ≠ .defer c) : o.semAt ro ρ = execOp ρ o := Oper.semAt_eq ro ρ o hd

theorem opStep_sound (G : Good w h hf a t N B) (hd : ∀ i, o.dst = some i → i < N) (hdef : ∀ c, o.op ≠ .defer c) {K : AF → AHeap → Prop} (e : opStep P o K t h) (Q : Exit → Act → World → Prop) :
    o.wpIn (fence ro) 0 P a w (To w h hf N B K) Q := by
  refine ⟨fun _ _ => trivial, ?_⟩
  rw [show (fence ro).round = ro from rfl, semAt_of hdef]
  unfold opStep opRes at e
  split at e
  · next f args argTypes ho =>
    have rl := G.repO.list args.toList
    have ef : (args.map a.eval) = (args.toList.map a.eval).toArray := by apply Array.toList_inj.1; simp
    unfold ACallV at e
    split at e
    · next g first caps hg =>
      obtain ⟨fi, ca, hv, r1, r2⟩ := (hg ▸ G.eval f : Rep w (h.un hf) (a.eval f) (.fn (.func g) first caps)).inv_fn
      obtain ⟨hcall, hc⟩ := e
      have hrun : (execOp a.eval o).run P w = .ok (.enter g ((fi ++ args.toList.map a.eval ++ ca).toArray)) w := by
        simp only [execOp, ho, resolve, Sem.run_bind, hv, Deferred.ofValue, Sem.run_pure, Result.andThen, invoke, ef]
        rw [show (fi.toArray ++ (args.toList.map a.eval).toArray ++ ca.toArray) = (fi ++ args.toList.map a.eval ++ ca).toArray from by simp]
        exact hcall _ _
      rw [hrun]
      refine ⟨fun hx => by simp [fence, Fence.wide] at hx, fence_calls ((hc hf w _ G.disj G.rel ((r1.append rl).append r2)).mono ?_)⟩
      rintro e' w' ⟨v, r, h', rfl, k, D, R, rv, x⟩
      exact ⟨_, _, k, (G.step D R x).put hd rv, x⟩
    · next l hg =>
      obtain ⟨fi, ca, hv, r1, r2⟩ := (hg ▸ G.eval f : Rep w (h.un hf) (a.eval f) (.fn (.yield l) [] [])).inv_fn
      have hfi : fi = [] := List.eq_nil_of_length_eq_zero (by have := r1.1; simpa using this)
      subst hfi
      obtain ⟨fn, tmps, assign, body, hy, hr⟩ := e hf w _ G.disj G.rel rl
      have hrun : (execOp a.eval o).run P w = .ok (.round l fn tmps assign body) w := by
        simp only [execOp, ho, resolve, Sem.run_bind, hv, Deferred.ofValue, Sem.run_pure, Result.andThen, invoke, ef]
        rw [show (([] : List Value).toArray ++ (args.toList.map a.eval).toArray) = (args.toList.map a.eval).toArray from by simp]
        exact hy
      rw [hrun]
      refine ⟨fun hx => by simp [fence, Fence.wide] at hx, fence_round (hr.mono ?_)⟩
      rintro e' w' ⟨v, r, h', rfl, k, D, R, rv, x⟩
      exact ⟨_, _, k, (G.step D R x).put hd rv, x⟩
    · exact e.elim
  · next r m args argTypes ho =>
    have rl := G.repO.list args.toList
    have ef : (args.map a.eval) = (args.toList.map a.eval).toArray := by apply Array.toList_inj.1; simp
    unfold invRes at e
    split at e
    · next ty v hv =>
      split at e
      · next g hg =>
        obtain ⟨z, hz, rz⟩ := (hv ▸ G.eval r : Rep w (h.un hf) (a.eval r) (.iface ty v)).inv_iface
        obtain ⟨hcall, hc⟩ := e
        have hm : (method (P.types.size + Made.depth) ty z m).run P w = .ok (g, z) w := run_method (n := P.types.size + 99) hg
        have hrun : (execOp a.eval o).run P w = .ok (.enter g ((z :: args.toList.map a.eval).toArray)) w := by
          simp only [execOp, ho, resolve, Sem.run_bind, hz, Sem.run_pure, Result.andThen, invoke, ef]
          rw [show (#[Value.iface ty z] ++ (args.toList.map a.eval).toArray)[0]? = some (.iface ty z) from by simp,
            show (#[Value.iface ty z] ++ (args.toList.map a.eval).toArray).extract 1 (#[Value.iface ty z] ++ (args.toList.map a.eval).toArray).size = (args.toList.map a.eval).toArray from by simp; exact List.take_of_length_le (by simp)]
          simp [callMethod, hm, Result.andThen]
          exact hcall _ _
        rw [hrun]
        refine ⟨fun hx => by simp [fence, Fence.wide] at hx, fence_calls ((hc hf w _ G.disj G.rel (RepL.cons rz rl)).mono ?_)⟩
        rintro e' w' ⟨v, r, h', rfl, k, D, R, rv, x⟩
        exact ⟨_, _, k, (G.step D R x).put hd rv, x⟩
      · exact e.elim
    · exact e.elim
  · obtain ⟨v, w', r, h', hrun, k, rv, D, R, x⟩ := effStep_sound G.disj G.rel G.repO e
    have T : To w h hf N B K (a.put o.dst v) w' := ⟨_, _, k, (G.step D R x).put hd rv, x⟩
    rcases hrun with hrun | ⟨hrun, rfl⟩
    · rw [hrun]; exact T
    · rw [hrun]; exact T

theorem yielded_of {ops : Array Oper} {tmps : Array Value} {g : AHeap} {j d : Nat} {b : Bool} (r : RepF w g tmps t) (hd : (ops[j]?).bind (·.dst) = some d) (hb : t d = .bool b) (hlt : d < tmps.size) : yielded ops tmps j = some b := by
  have := (hb ▸ r d : Rep w g (tmps.getD d Go.undef) (.bool b)).inv_bool
  unfold yielded
  rw [hd]
  have e : tmps[d]? = some (.bool b) := by
    simp [hlt] at this ⊢
    exact this
  simp [e]

theorem unyielded_of {ops : Array Oper} {tmps : Array Value} {g : AHeap} {j d : Nat} (r : RepF w g tmps t) (hd : (ops[j]?).bind (·.dst) = some d) (hb : t d = .tup []) : yielded ops tmps j = none := by
  have := (hb ▸ r d : Rep w g (tmps.getD d Go.undef) (.tup []))
  unfold yielded
  rw [hd]
  simp only [Option.bind_some]
  cases e : tmps[d]? with
  | none => rfl
  | some v =>
    have e2 : tmps.getD d Go.undef = v := by simp [Array.getD_eq_getD_getElem?, e]
    rw [e2] at this
    cases this
    rfl
theorem wanted_of {ops : Array Oper} (G : Good w h hf a t N B) (hg : ∀ j want d, o.guard = some (j, want) → (ops[j]?).bind (·.dst) = some d → d < N) {b : Bool} (e : wantedA ops t o = some b) : Region.wanted o (yielded ops a.tmps) = b := by
  unfold wantedA at e
  unfold Region.wanted
  split at e
  · next hn => simp only [Option.some.injEq] at e; simp [hn, ← e]
  · next j want hn =>
    split at e
    · next d hd =>
      split at e
      · next b' hb =>
        simp only [Option.some.injEq] at e
        have := yielded_of G.frame hd hb (by rw [G.size]; exact hg j want d hn hd)
        rw [hn]
        simp only [this]
        rw [← e]
        cases b' <;> cases want <;> rfl
      · next hb =>
        simp only [Option.some.injEq] at e
        have := unyielded_of G.frame hd hb
        rw [hn]
        simp only [this]
        rw [← e]
        rfl
      · cases e
    · cases e

/-- What is asked of a region's operations once for all: their slots lie in the frame; no defer, no select. -/
def opsOk (N : Nat) (ops : Array Oper) : Bool :=
  ops.all fun o => (match o.dst with | some d => decide (d < N) | none => true) && (match o.op with | .defer _ => false | .select .. => false | _ => true)

theorem opsOk_spec {ops : Array Oper} (hk : opsOk N ops = true) {i : Nat} {o : Oper} (hi : ops[i]? = some o) : (∀ d, o.dst = some d → d < N) ∧ (∀ c, o.op ≠ .defer c) ∧ (∀ cs b, o.op ≠ .select cs b) := by
  have := Array.all_eq_true_iff_forall_mem.1 hk o (Array.mem_of_getElem? hi)
  simp only [Bool.and_eq_true] at this
  obtain ⟨h1, h2⟩ := this
  refine ⟨fun d hd => by simpa [hd] using h1, fun c hc => by simp [hc] at h2, fun cs b hc => by simp [hc] at h2⟩

theorem guard_spec {ops : Array Oper} (hk : opsOk N ops = true) : ∀ j want d, o.guard = some (j, want) → (ops[j]?).bind (·.dst) = some d → d < N := by
  intro j want d _ hd
  cases hj : ops[j]? with
  | none => simp [hj] at hd
  | some oj => exact (opsOk_spec hk hj).1 d (by simpa [hj] using hd)

theorem To.trans {w0 : World} {h0 : AHeap} {K : AF → AHeap → Prop} {a' : Act} {w' : World} (x : Stp w0 h0 hf w h) (T : To w h hf N B K a' w') : To w0 h0 hf N B K a' w' := by
  obtain ⟨t', h', k, G, y⟩ := T
  exact ⟨t', h', k, G, x.trans y⟩

theorem awpOps_sound {ops : Array Oper} (hk : opsOk N ops = true) {K : AF → AHeap → Prop} {Q : Exit → Act → World → Prop} : ∀ (os : List Oper) (l : List Nat) (t : AF) (h : AHeap) (a : Act) (w : World), l.map (ops[·]?) = os.map some →
    Good w h hf a t N B → awpOps P ops K os t h → (∀ a' w', To w h hf N B K a' w' → Q .normal a' w') → wpOpsIn (fence ro) 0 P ops Q l a w
  | [], l, t, h, a, w, hl, G, e, hq => by
    have : l = [] := by simpa using hl
    subst this
    exact hq _ _ (To.refl G e)
  | o :: os, l, t, h, a, w, hl, G, e, hq => by
    cases l with
    | nil => simp at hl
    | cons i l =>
      simp only [List.map_cons, List.cons.injEq] at hl
      obtain ⟨hi, hl⟩ := hl
      obtain ⟨hd, hdef, _⟩ := opsOk_spec hk hi
      simp only [awpOps] at e
      rw [wpOpsIn_cons]
      unfold wpOpIn
      rw [hi]
      split at e
      · next hw =>
        simp only [wanted_of G (guard_spec hk) hw, if_true]
        refine Oper.wpIn_mono ?_ (opStep_sound G hd hdef e Q)
        rintro a' w' ⟨t', h', k, G', x⟩
        exact awpOps_sound hk os l t' h' a' w' hl G' k (fun a'' w'' T => hq _ _ (T.trans x))
      · next hw =>
        simp only [wanted_of G (guard_spec hk) hw, Bool.false_eq_true, if_false]
        exact ⟨fun _ _ => trivial, awpOps_sound hk os l _ h _ w hl (G.skip hd) e (fun a'' w'' T => hq _ _ T)⟩
      · exact e.elim
end
end Go.AH

end

section
/-
  What is owned may be given up: from then on it is read-only, and told by value.
-/
namespace Go.AH
open Go

/-- The value told anew where the blocks of h that are not in h' are read-only. -/
def frzF : Nat → AHeap → AHeap → AV → AV
  | 0, _, _, a => a
  | k + 1, h, h', a => match a with
    | .osl b off n es => match h b, h' b with
      | some (.cells cs), none => if off + n * es ≤ cs.length then .sl n (((cs.drop off).take (n * es)).map (frzF k h h')) else .osl b off n es
      | _, _ => .osl b off n es
    | .ptr b off => match h b, h' b with
      | some (.cells cs), none => .fptr ((cs.drop off).map (frzF k h h'))
      | _, _ => .ptr b off
    | .sl n cs => .sl n (cs.map (frzF k h h'))
    | .fptr cs => .fptr (cs.map (frzF k h h'))
    | .agg cs => .agg (cs.map (frzF k h h'))
    | .tup cs => .tup (cs.map (frzF k h h'))
    | .fn f fa ca => .fn f (fa.map (frzF k h h')) (ca.map (frzF k h h'))
    | .iface t v => .iface t (frzF k h h' v)
    | a => a

/-- h' is h with some blocks given up. -/
def SubH (k : Nat) (h h' : AHeap) : Prop := ∀ b, h' b = none ∨ h' b = h b ∨ ∃ cs, h b = some (.cells cs) ∧ h' b = some (.cells (cs.map (frzF k h h')))

def TurnF (k : Nat) (h h' : AHeap) (t t' : AF) : Prop := ∀ i, t' i = t i ∨ t' i = frzF k h h' (t i)

def turnA (K : AF → AHeap → Prop) (t : AF) (h : AHeap) : Prop := ∃ k h' t', SubH k h h' ∧ TurnF k h h' t t' ∧ K t' h'
def finA (R : AV → AHeap → Prop) (r : AV) (h : AHeap) : Prop := ∃ k h' r', SubH k h h' ∧ (r' = r ∨ r' = frzF k h h' r) ∧ R r' h'

theorem SubH.refl (k : Nat) (h : AHeap) : SubH k h h := fun _ => .inr (.inl rfl)
theorem SubH.empty (k : Nat) (h : AHeap) : SubH k h AHeap.empty := fun _ => .inl rfl
theorem SubH.del (k : Nat) (h : AHeap) (b : Nat) : SubH k h (h.del b) := fun i => by
  by_cases e : i = b
  · subst e; exact .inl AHeap.del_same
  · exact .inr (.inl (AHeap.del_ne e))
theorem turnA_self {K : AF → AHeap → Prop} {t : AF} {h : AHeap} (k : K t h) : turnA K t h := ⟨0, h, t, .refl _ _, fun _ => .inl rfl, k⟩
theorem finA_self {R : AV → AHeap → Prop} {r : AV} {h : AHeap} (k : R r h) : finA R r h := ⟨0, h, r, .refl _ _, .inl rfl, k⟩
/-- All is given up. -/
theorem finA_all {R : AV → AHeap → Prop} {r : AV} {h : AHeap} (k : Nat) (q : R (frzF k h AHeap.empty r) AHeap.empty) : finA R r h := ⟨k, _, _, .empty _ _, .inr rfl, q⟩
theorem finA_drop {R : AV → AHeap → Prop} {r : AV} {h : AHeap} (q : R r AHeap.empty) : finA R r h := ⟨0, _, _, .empty _ _, .inl rfl, q⟩

theorem frz_one {h h' : AHeap} : ∀ (k : Nat) (a : AV), (frzF k h h' a).one = a.one
  | 0, _ => rfl
  | k + 1, a => by
    cases a <;> simp only [frzF] <;> first | rfl | skip
    · split
      · split <;> rfl
      · rfl
    · split <;> rfl

section
variable {P : Program} {w : World} {h h' hf : AHeap} {t t' : AF} {a : Act} {N B k : Nat}

theorem SubH.none {k : Nat} (s : SubH k h h') {b : Nat} (e : h b = none) : h' b = none := by
  rcases s b with q | q | ⟨cs, q, _⟩
  · exact q
  · rw [q]; exact e
  · rw [e] at q; cases q

theorem SubH.ext (s : SubH k h h') (_ : Disj h hf) : Ext w (h.un hf) w (h'.un hf) :=
  ⟨Nat.le_refl _, fun b _ hb => by
    obtain ⟨e1, e2⟩ := AHeap.un_eq_none.1 hb
    exact ⟨AHeap.un_eq_none.2 ⟨s.none e1, e2⟩, rfl⟩, fun b cs e fr hc => ⟨cs, fr, hc, rfl⟩, rfl, rfl, rfl⟩

theorem SubH.disj (s : SubH k h h') (D : Disj h hf) : Disj h' hf := fun b => by
  rcases D b with e | e
  · exact .inl (s.none e)
  · exact .inr e

theorem Cells.conv {g g' : AHeap} {b off : Nat} {cells : List AV} (c : Cells w g b off cells) (f : AV → AV) (ho : ∀ a, (f a).one = a.one) (hr : ∀ v a, Rep w g v a → Rep w g' v (f a)) : Cells w g' b off (cells.map f) := by
  obtain ⟨h1, vs, h2, h3⟩ := c
  refine ⟨fun x hx => ?_, vs, fun i hi => h2 i (by simpa using hi), fun i hi => ?_⟩
  · obtain ⟨y, hy, rfl⟩ := List.mem_map.1 hx
    rw [ho]; exact h1 y hy
  · simp only [List.getElem_map]
    exact hr _ _ (h3 i (by simpa using hi))

theorem RepL.conv {g g' : AHeap} {vs : List Value} {as : List AV} (r : RepL w g vs as) (f : AV → AV) (hr : ∀ v a, Rep w g v a → Rep w g' v (f a)) : RepL w g' vs (as.map f) :=
  ⟨by simp [r.1], fun i hi hj => by simp only [List.getElem_map]; exact hr _ _ (r.2 i hi _)⟩

theorem frz_sound (R : Rel w (h.un hf)) (D : Disj h hf) (s : ∀ b, h b = none → h' b = none) : ∀ (j : Nat) (v : Value) (x : AV), Rep w (h.un hf) v x → Rep w (h'.un hf) v (frzF j h h' x)
  | 0, v, x, r => r.ext ⟨Nat.le_refl _, fun b _ hb => by
      obtain ⟨e1, e2⟩ := AHeap.un_eq_none.1 hb
      exact ⟨AHeap.un_eq_none.2 ⟨s b e1, e2⟩, rfl⟩, fun b cs e fr hc => ⟨cs, fr, hc, rfl⟩, rfl, rfl, rfl⟩
  | j + 1, v, x, r => by
    have ih := frz_sound R D s j
    have x0 : Ext w (h.un hf) w (h'.un hf) := ⟨Nat.le_refl _, fun b _ hb => by
      obtain ⟨e1, e2⟩ := AHeap.un_eq_none.1 hb
      exact ⟨AHeap.un_eq_none.2 ⟨s b e1, e2⟩, rfl⟩, fun b cs e fr hc => ⟨cs, fr, hc, rfl⟩, rfl, rfl, rfl⟩
    cases x <;> simp only [frzF] <;> first | exact r.ext x0 | skip
    case sl n cells =>
      by_cases hne : cells = []
      · subst hne; exact r.ext x0
      · obtain ⟨b, off, c, rfl, hn, hb, hlt, hc⟩ := cells_of_sl r hne
        obtain ⟨e1, e2⟩ := AHeap.un_eq_none.1 hb
        exact rep_sl hn (AHeap.un_eq_none.2 ⟨s b e1, e2⟩) hlt (hc.conv _ (frz_one j) ih)
    case fptr cells =>
      obtain ⟨b, off, rfl, hb, hlt, hc⟩ := cells_of_fptr r
      obtain ⟨e1, e2⟩ := AHeap.un_eq_none.1 hb
      exact rep_fptr (AHeap.un_eq_none.2 ⟨s b e1, e2⟩) hlt (hc.conv _ (frz_one j) ih)
    case osl b off n es =>
      split
      · next cs hb hb' =>
        split
        · next hle =>
          have hfb : hf b = none := D.none_right hb
          obtain ⟨c, o2, rfl, hn, hcl⟩ := r.osl_cells R (AHeap.un_some hb)
          exact rep_sl hn (AHeap.un_eq_none.2 ⟨hb', hfb⟩) (R.lt (AHeap.un_some hb)) (hcl.conv _ (frz_one j) ih)
        · exact r.ext x0
      · exact r.ext x0
    case ptr b off =>
      split
      · next cs hb hb' =>
        have hv := r.inv_ptr
        subst hv
        have hfb : hf b = none := D.none_right hb
        have hcl := (Rel.cells R (AHeap.un_some hb)).drop off
        rw [Nat.zero_add] at hcl
        exact rep_fptr (AHeap.un_eq_none.2 ⟨hb', hfb⟩) (R.lt (AHeap.un_some hb)) (hcl.conv _ (frz_one j) ih)
      · exact r.ext x0
    case agg cells =>
      obtain ⟨vs, rfl, h1, h2, h3⟩ := r.inv_agg
      have r3 := h3.conv _ ih
      exact .agg (by simp [h1]) (fun y hy => by obtain ⟨z, hz, rfl⟩ := List.mem_map.1 hy; rw [frz_one]; exact h2 z hz) r3.2
    case tup cells =>
      obtain ⟨vs, rfl, h3⟩ := r.inv_tup
      have r3 := h3.conv _ ih
      exact .tup r3.1 r3.2
    case fn f fa ca =>
      obtain ⟨fi, cp, rfl, h1, h2⟩ := r.inv_fn
      have r1 := h1.conv _ ih
      have r2 := h2.conv _ ih
      exact .fn r1.1 r2.1 r1.2 r2.2
    case iface ty y =>
      obtain ⟨z, rfl, hz⟩ := r.inv_iface
      exact .iface (ih _ _ hz)

theorem SubH.rel (s : SubH k h h') (R : Rel w (h.un hf)) (D : Disj h hf) : Rel w (h'.un hf) := by
  have x0 : Ext w (h.un hf) w (h'.un hf) := s.ext D
  intro b c e
  rw [AHeap.un_at] at e
  cases hb : h' b with
  | none =>
    rw [hb] at e
    have : (h.un hf) b = some c := by rw [D.un_comm]; exact AHeap.un_some e
    exact (R b c this).ext x0 rfl
  | some c' =>
    rw [hb] at e
    have ec : c' = c := by simpa using e
    subst ec
    rcases s b with q | q | ⟨cs, q1, q2⟩
    · rw [hb] at q; cases q
    · exact (R b c' (AHeap.un_some (q.symm.trans hb))).ext x0 rfl
    · rw [hb] at q2; cases q2
      obtain ⟨vs, ty, h1, h2, h3, h4⟩ := R b _ (AHeap.un_some q1)
      refine ⟨vs, ty, h1, by simpa using h2, fun y hy => by obtain ⟨z, hz, rfl⟩ := List.mem_map.1 hy; rw [frz_one]; exact h3 z hz, fun i hi hj => ?_⟩
      simp only [List.getElem_map]
      exact frz_sound R D (fun b => s.none) k _ _ (h4 i (by simpa using hi) hj)

theorem SubH.stp (s : SubH k h h') (D : Disj h hf) : Stp w h hf w h' := ⟨s.ext D, fun _ _ => rfl⟩

theorem Good.turn (G : Good w h hf a t N B) (s : SubH k h h') (ht : TurnF k h h' t t') : Good w h' hf a t' N B :=
  ⟨s.disj G.disj, s.rel G.rel G.disj, fun i => by
    rcases ht i with e | e
    · rw [e]; exact (G.frame i).ext (s.ext G.disj)
    · rw [e]; exact frz_sound G.rel G.disj (fun b => s.none) k _ _ (G.frame i), G.size, G.defers.ext (s.ext G.disj), G.base⟩

theorem To.turn {K : AF → AHeap → Prop} {a' : Act} {w' : World} (T : To w h hf N B (turnA K) a' w') : To w h hf N B K a' w' := by
  obtain ⟨t', h', ⟨k, h'', t'', s, ht, q⟩, G, x⟩ := T
  exact ⟨t'', h'', q, G.turn s ht, x.trans (s.stp G.disj)⟩
end
end Go.AH

end

section
/-
  The abstract calculus over code; functions.
-/
namespace Go.AH
open Go

/-- A piece of code, in the model. -/
def AWP (P : Program) (ro : Option Nat) (N : Nat) (c : Code) (Q : Exit → AF → AHeap → Prop) (t : AF) (h : AHeap) : Prop :=
  ∀ hf B w a, Good w h hf a t N B → c.wpIn (fence ro) 0 P (fun e a' w' => To w h hf N B (Q e) a' w') a w

def thenA (K : AF → AHeap → Prop) (Q : Exit → AF → AHeap → Prop) : Exit → AF → AHeap → Prop
  | .normal => K
  | e => Q e
def blockA (id : Nat) (Q : Exit → AF → AHeap → Prop) : Exit → AF → AHeap → Prop
  | .exit id' => if id' = id then Q .normal else Q (.exit id')
  | e => Q e
def condA (c : AV) (X Y : Prop) : Prop := match c with
  | .bool b => (b = true → X) ∧ (b = false → Y)
  | _ => False
/-- A loop: an invariant with a number that every round lowers. -/
def awpLoop (body : (Exit → AF → AHeap → Prop) → AF → AHeap → Prop) (Q : Exit → AF → AHeap → Prop) (t : AF) (h : AHeap) : Prop :=
  ∃ (I : Nat → AF → AHeap → Prop) (n : Nat), turnA (I n) t h ∧ ∀ n t h, I n t h → body (thenA (turnA fun t' h' => ∃ n', n' < n ∧ I n' t' h') (fun e => turnA (Q e))) t h

noncomputable def awp (P : Program) (ro : Option Nat) (N : Nat) : Code → (Exit → AF → AHeap → Prop) → AF → AHeap → Prop
  | .skip, Q, t, h => Q .normal t h
  | .label _, Q, t, h => Q .normal t h
  | .region id ops draw, Q, t, h => match draw with
    | false => awpOps P ops (Q .normal) ops.toList t h
    | true => AWP P ro N (.region id ops true) Q t h
  | .seq x y, Q, t, h => awp P ro N x (thenA (awp P ro N y Q) Q) t h
  | .cond c x y, Q, t, h => condA (evalA t c) (awp P ro N x Q t h) (awp P ro N y Q t h)
  | .block id c, Q, t, h => awp P ro N c (blockA id Q) t h
  | .loop c, Q, t, h => awpLoop (awp P ro N c) Q t h
  | .exit id, Q, t, h => Q (.exit id) t h
  | .ret, Q, t, h => Q .ret t h
  | .rangeFunc f ps as b, Q, t, h => AWP P ro N (.rangeFunc f ps as b) Q t h
  | .scope c, Q, t, h => AWP P ro N (.scope c) Q t h
  | _, _, _, _ => False

/-- What is asked of code once for all. -/
def codeOk (N : Nat) : Code → Bool
  | .region _ ops _ => opsOk N ops
  | .seq x y => codeOk N x && codeOk N y
  | .cond _ x y => codeOk N x && codeOk N y
  | .block _ c => codeOk N c
  | .loop c => codeOk N c
  | .scope c => codeOk N c
  | .rangeFunc _ _ x y => codeOk N x && codeOk N y
  | _ => true

section
variable {P : Program} {w : World} {h h' hf : AHeap} {t t' : AF} {a : Act} {N B : Nat} {ro : Option Nat}

theorem range_map (ops : Array Oper) : (List.range ops.size).map (ops[·]?) = ops.toList.map some := by
  apply List.ext_getElem?
  intro i
  simp only [List.getElem?_map, List.getElem?_range']
  rcases Nat.lt_or_ge i ops.size with hi | hi
  · simp [hi, List.getElem?_range hi]
  · rw [List.getElem?_eq_none (by simpa using hi), List.getElem?_eq_none (by simpa using hi)]; rfl

theorem AWP.mono {c : Code} {Q Q' : Exit → AF → AHeap → Prop} (x : AWP P ro N c Q t h) (hq : ∀ e t h, Q e t h → Q' e t h) : AWP P ro N c Q' t h :=
  fun hf B w a G => wpIn_mono (x hf B w a G) fun e _ _ T => T.mono (hq e)

theorem AWP.turn {c : Code} {Q : Exit → AF → AHeap → Prop} (x : turnA (AWP P ro N c Q) t h) : AWP P ro N c Q t h := by
  obtain ⟨k, h', t', s, ht, q⟩ := x
  intro hf B w a G
  exact wpIn_mono (q hf B w a (G.turn s ht)) fun e a' w' T => T.trans (s.stp G.disj)

theorem awp_sound : ∀ (c : Code) (Q : Exit → AF → AHeap → Prop) (t : AF) (h : AHeap), codeOk N c = true → awp P ro N c Q t h → AWP P ro N c Q t h := by
  intro c
  induction c with
  | skip => intro Q t h _ e hf B w a G; exact wpIn_skip (To.refl G e)
  | label l => intro Q t h _ e hf B w a G; exact wpIn_label (To.refl G e)
  | exit id => intro Q t h _ e hf B w a G; exact wpIn_exit (To.refl G e)
  | ret => intro Q t h _ e hf B w a G; exact wpIn_ret (To.refl G e)
  | goto l => intro Q t h _ e; exact e.elim
  | refuse why => intro Q t h _ e; exact e.elim
  | rangeFunc f ps as b _ _ => intro Q t h _ e; exact e
  | scope c _ => intro Q t h _ e; exact e
  | region id ops draw =>
    intro Q t h hk e
    cases draw with
    | true => exact e
    | false =>
      intro hf B w a G
      exact wpIn_region (awpOps_sound (K := Q .normal) hk ops.toList (List.range ops.size) t h a w (range_map ops) G e (fun _ _ T => T))
  | seq x y ihx ihy =>
    intro Q t h hk e hf B w a G
    simp only [codeOk, Bool.and_eq_true] at hk
    refine wpIn_seq (wpIn_mono (ihx _ t h hk.1 e hf B w a G) ?_)
    intro ex a' w' T
    cases ex with
    | normal =>
      obtain ⟨t', h', k, G', s⟩ := T
      exact wpIn_mono (ihy Q t' h' hk.2 k hf B w' a' G') fun e a'' w'' T' => T'.trans s
    | exit id => exact T
    | goto l => exact T
    | ret => exact T
    | panic ch => exact T
    | outgrown => exact T
  | cond c x y ihx ihy =>
    intro Q t h hk e hf B w a G
    simp only [codeOk, Bool.and_eq_true] at hk
    simp only [awp, condA] at e
    split at e
    · next b hb =>
      have hc := (hb ▸ G.eval c : Rep w (h.un hf) (a.eval c) (.bool b)).inv_bool
      cases b with
      | true => exact wpIn_cond_true hc (ihx Q t h hk.1 (e.1 rfl) hf B w a G)
      | false => exact wpIn_cond_false hc (ihy Q t h hk.2 (e.2 rfl) hf B w a G)
    · exact e.elim
  | block id c ih =>
    intro Q t h hk e hf B w a G
    refine wpIn_block (wpIn_mono (ih _ t h hk e hf B w a G) ?_)
    intro ex a' w' T
    cases ex with
    | exit id' =>
      simp only [Exit.inBlock, blockA] at T ⊢
      split
      · next he => rw [if_pos he] at T; exact T
      · next he => rw [if_neg he] at T; exact T
    | normal => exact T
    | goto l => exact T
    | ret => exact T
    | panic ch => exact T
    | outgrown => exact T
  | loop c ih =>
    intro Q t h hk e hf B w a G
    obtain ⟨I, n0, i0, hround⟩ := e
    obtain ⟨k0, h0, t0, s0, ht0, q0⟩ := i0
    have G0 := G.turn s0 ht0
    refine wpIn_mono (wpIn_loop_ghost (Q := fun e a' w' => To w h0 hf N B (Q e) a' w') (fun n a' w' => ∃ t' h', I n t' h' ∧ Good w' h' hf a' t' N B ∧ Stp w h0 hf w' h') n0 ⟨t0, h0, q0, G0, .refl _ _ _⟩ ?_) (fun e a' w' T => T.trans (s0.stp G.disj))
    rintro n a' w' ⟨t', h', i, G', s⟩
    refine wpIn_mono (ih _ t' h' hk (hround n t' h' i) hf B w' a' G') ?_
    intro ex a'' w'' T
    cases ex with
    | normal =>
      obtain ⟨t2, h2, ⟨n', hlt, i'⟩, G2, s2⟩ := To.turn T
      exact ⟨n', hlt, t2, h2, i', G2, s.trans s2⟩
    | exit id => exact (To.turn T).trans s
    | goto l => exact (To.turn T).trans s
    | ret => exact (To.turn T).trans s
    | panic ch => exact (To.turn T).trans s
    | outgrown => exact (To.turn T).trans s

/-! ### Functions -/
def resA (P : Program) (t : AF) (h : AHeap) : ResultVar → Option AV
  | .tmp i => some (t i)
  | .cell a ty => match t a with
    | .ptr b off => match h b with
      | some (.cells cs) => loadA P ty (cs.drop off)
      | _ => none
    | .fptr cells => loadA P ty cells
    | _ => none
def resL (P : Program) (t : AF) (h : AHeap) : List ResultVar → Option (List AV)
  | [] => some []
  | r :: rs => match resA P t h r, resL P t h rs with
    | some v, some vs => some (v :: vs)
    | _, _ => none
/-- What a function hands back. -/
def resultsA (P : Program) (t : AF) (h : AHeap) (rs : List ResultVar) : Option AV :=
  match resL P t h rs with
  | some [v] => some v
  | some vs => some (.tup vs)
  | none => none

def entryF (args : List AV) : AF := fun i => args.getD i .undef

def retQ (P : Program) (rs : List ResultVar) (R : AV → AHeap → Prop) : Exit → AF → AHeap → Prop
  | .normal, t, h => match resultsA P t h rs with | some r => finA R r h | none => False
  | .ret, t, h => match resultsA P t h rs with | some r => finA R r h | none => False
  | _, _, _ => False

theorem run_resA {g : AHeap} (R : Rel w g) (hsub : ∀ b c, h b = some c → g b = some c) {tmps : Array Value} (r : RepF w g tmps t) {x : ResultVar} {v : AV} (e : resA P t h x = some v) :
    ∃ y, (match x with | .tmp i => pure (tmps.getD i undef) | .cell a ty => do loadVar ty (← asAddr (tmps.getD a undef)) : Sem Value).run P w = .ok y w ∧ Rep w g y v := by
  cases x with
  | tmp i => simp only [resA, Option.some.injEq] at e; subst e; exact ⟨_, rfl, r i⟩
  | cell ad ty =>
    simp only [resA] at e
    split at e
    · next b off hp =>
      split at e
      · next cs hb =>
        have hv := (hp ▸ r ad : Rep w g (tmps.getD ad undef) (.ptr b off)).inv_ptr
        have hcl := (Rel.cells R (hsub _ _ hb)).drop off
        rw [Nat.zero_add] at hcl
        obtain ⟨y, h1, h2⟩ := run_loadVar (P := P) hcl e
        exact ⟨y, by simp only [hv, asAddr, Sem.run_bind, Sem.run_pure, Result.andThen, h1], h2⟩
      · cases e
    · next cells hp =>
      obtain ⟨b, off, hv, _, _, hcl⟩ := cells_of_fptr (hp ▸ r ad : Rep w g (tmps.getD ad undef) (.fptr cells))
      obtain ⟨y, h1, h2⟩ := run_loadVar (P := P) hcl e
      exact ⟨y, by simp only [hv, asAddr, Sem.run_bind, Sem.run_pure, Result.andThen, h1], h2⟩
    · cases e

theorem run_resL {g : AHeap} (R : Rel w g) (hsub : ∀ b c, h b = some c → g b = some c) {tmps : Array Value} (r : RepF w g tmps t) : ∀ (xs : List ResultVar) (vs : List AV), resL P t h xs = some vs →
    ∃ ys, (xs.mapM fun | .tmp i => pure (tmps.getD i undef) | .cell a ty => do loadVar ty (← asAddr (tmps.getD a undef)) : Sem (List Value)).run P w = .ok ys w ∧ RepL w g ys vs
  | [], vs, e => by simp only [resL, Option.some.injEq] at e; subst e; exact ⟨[], rfl, .nil⟩
  | x :: xs, vs, e => by
    simp only [resL] at e
    split at e
    · next v vs' hv hvs =>
      cases e
      obtain ⟨y, h1, h2⟩ := run_resA (P := P) R hsub r hv
      obtain ⟨ys, h3, h4⟩ := run_resL R hsub r xs vs' hvs
      refine ⟨y :: ys, ?_, .cons h2 h4⟩
      rw [List.mapM_cons, Sem.run_bind]
      cases x with
      | tmp i => simp only at h1 ⊢; rw [h1]; simp only [Result.andThen, Sem.run_bind]; rw [h3]; rfl
      | cell ad ty => simp only at h1 ⊢; rw [h1]; simp only [Result.andThen, Sem.run_bind]; rw [h3]; rfl
    · cases e

theorem run_results {g : AHeap} (R : Rel w g) (hsub : ∀ b c, h b = some c → g b = some c) {tmps : Array Value} (r : RepF w g tmps t) {fn : Func} {v : AV} (e : resultsA P t h fn.results.toList = some v) :
    ∃ y, (results fn tmps).run P w = .ok y w ∧ Rep w g y v := by
  unfold resultsA at e
  cases hl : resL P t h fn.results.toList with
  | none => rw [hl] at e; cases e
  | some vs =>
    obtain ⟨ys, h1, h2⟩ := run_resL (P := P) R hsub r _ _ hl
    have hm : (fn.results.mapM fun | .tmp i => pure (tmps.getD i undef) | .cell a ty => do loadVar ty (← asAddr (tmps.getD a undef)) : Sem (Array Value)).run P w = .ok ys.toArray w := by
      rw [Array.mapM_eq_mapM_toList, Sem.run_map, h1]; rfl
    rw [hl] at e
    have hres : (results fn tmps).run P w = .ok (if h : ys.toArray.size = 1 then ys.toArray[0] else .tuple ys.toArray) w := by
      unfold results
      rw [Sem.run_bind]
      exact congrArg (fun r => Result.andThen r fun (vs : Array Value) w' => (pure (if h : vs.size = 1 then vs[0] else .tuple vs) : Sem Value).run P w') hm
    rw [hres]
    split at e
    · next v' heq =>
      simp only [Option.some.injEq] at heq e
      subst heq; subst e
      obtain ⟨y, ys', rfl, r1, r2⟩ := h2.uncons
      have : ys' = [] := List.eq_nil_of_length_eq_zero (by have := r2.1; simpa using this)
      subst this
      exact ⟨y, by simp, r1⟩
    · next vs' hne heq =>
      simp only [Option.some.injEq] at heq e
      subst heq; subst e
      have hlen : ys.toArray.size ≠ 1 := by
        intro h1'
        have hl1 : vs.length = 1 := by rw [← h2.1]; simpa using h1'
        obtain ⟨x, hx⟩ := List.length_eq_one_iff.1 hl1
        exact hne x (by rw [hx])
      exact ⟨.tuple ys.toArray, by rw [dif_neg hlen], .tup h2.1 h2.2⟩
    · next heq => cases heq

/-- A block that is no row of cells turns: what values stand for does not. -/
theorem Rep.other {g : AHeap} {r : Nat} {o o' : Obj} (ho : w.heap[r]? = some o) (hn : ∀ c e f, o ≠ .cells c e f) {v : Value} {x : AV} (q : Rep w g v x) : Rep (w.putObj r o') g v x := by
  have hc : ∀ (ad : Addr) (u : Value), w.cell? ad = some u → (w.putObj r o').cell? ad = some u := by
    intro ad u hu
    have hne : ad.block ≠ r := by
      intro e
      unfold World.cell? at hu
      rw [e, ho] at hu
      cases o <;> first | (exact absurd rfl (hn _ _ _)) | cases hu
    rw [← hu]
    exact World.cell?_of_block (w := w) (World.putObj_heap_other hne)
  induction q with
  | undef v => exact .undef v
  | bool b => exact .bool b
  | int k n => exact .int k n
  | str s => exact .str s
  | nilsl => exact .nilsl
  | sl0 a n c hn => exact .sl0 a n c hn
  | sl hn hb hlt hcc ho _ ih => exact .sl hn hb (by simpa using hlt) (fun i hi => hc _ _ (hcc i hi)) ho ih
  | osl hn2 hO hs =>
    obtain ⟨cs, e, fr, h1, h2⟩ := hs
    refine .osl hn2 hO ⟨cs, e, fr, ?_, h2⟩
    rw [World.putObj_heap_other]
    · exact h1
    · intro e; rw [e, ho] at h1; cases h1; exact absurd rfl (hn _ _ _)
  | nilptr => exact .nilptr
  | ptr b off => exact .ptr b off
  | fptr hb hlt hcc ho _ ih => exact .fptr hb (by simpa using hlt) (fun i hi => hc _ _ (hcc i hi)) ho ih
  | nilmap => exact .nilmap
  | map b => exact .map b
  | fn h1 h2 _ _ ih1 ih2 => exact .fn h1 h2 ih1 ih2
  | nilfn => exact .nilfn
  | nilif => exact .nilif
  | iface _ ih => exact .iface ih
  | agg h1 ho _ ih => exact .agg h1 ho ih
  | tup h1 _ ih => exact .tup h1 ih

theorem Rel.other {g : AHeap} {r : Nat} {o o' : Obj} (ho : w.heap[r]? = some o) (hn : ∀ c e f, o ≠ .cells c e f) (hg : g r = none) (R : Rel w g) : Rel (w.putObj r o') g := by
  intro b c e
  have hne : b ≠ r := fun e' => by rw [e', hg] at e; cases e
  have hb : (w.putObj r o').heap[b]? = w.heap[b]? := World.putObj_heap_other hne
  have k := R b c e
  cases c with
  | cells cs => obtain ⟨vs, ty, h1, h2, h3, h4⟩ := k; exact ⟨vs, ty, hb.trans h1, h2, h3, fun i hi hj => (h4 i hi hj).other ho hn⟩
  | map sh es => obtain ⟨vs, cl, h1, h2, h3, h4⟩ := k; exact ⟨vs, cl, hb.trans h1, h2, h3, fun i hi hj => ⟨(h4 i hi hj).1.other ho hn, (h4 i hi hj).2.other ho hn⟩⟩
  | sit s p => exact hb.trans k
  | loop r t => exact ⟨hb.trans k.1, fun i => (k.2 i).other ho hn⟩

/-- On the way out the marks are taken. -/
theorem leaves {fn : Func} {R : AV → AHeap → Prop} {w0 : World} {h0 : AHeap} {v : AV} (ev : resultsA P t h fn.results.toList = some v) (hR : finA R v h) : ∀ (rs : List Nat) (w : World), Disj h hf → Rel w (h.un hf) → RepF w (h.un hf) a.tmps t → rs.Nodup →
    (∀ r ∈ rs, w0.heap.size ≤ r ∧ r < w.heap.size ∧ (h.un hf) r = none ∧ w.heap[r]? = some (.deferred (some []))) → Stp w0 h0 hf w h →
    LeavesInM (fence none) 0 P fn a.tmps (RetTo w0 h0 hf R) (rs.map fun r => { target := .collected r, args := #[] }) .returning w
  | [], w, D, Rl, F, _, _, s => by
    obtain ⟨y, h1, h2⟩ := run_results (P := P) Rl (fun b c hb => AHeap.un_some hb) F ev
    obtain ⟨k, h', r', sb, hr, q⟩ := hR
    refine ⟨y, h1, y, r', h', rfl, q, sb.disj D, sb.rel Rl D, ?_, s.trans (sb.stp D)⟩
    rcases hr with rfl | rfl
    · exact h2.ext (sb.ext D)
    · exact frz_sound Rl D (fun b => sb.none) k _ _ h2
  | r :: rs, w, D, Rl, F, hnd, hrs, s => by
    obtain ⟨q1, q2, q3, q4⟩ := hrs r (by simp)
    have hno : ∀ c e f, Obj.deferred (some []) ≠ .cells c e f := fun _ _ _ h => by cases h
    refine ⟨by simp, .inl ⟨r, w.putObj r (.deferred none), rfl, run_takeDeferred q4, ?_⟩⟩
    have hnd' := List.nodup_cons.1 hnd
    refine leaves ev hR rs _ D (Rl.other q4 hno q3) (fun i => (F i).other q4 hno) hnd'.2 (fun r' hr' => ?_) ?_
    · obtain ⟨p1, p2, p3, p4⟩ := hrs r' (by simp [hr'])
      have hne : r' ≠ r := fun e => hnd'.1 (e ▸ hr')
      exact ⟨p1, by simpa using p2, p3, (World.putObj_heap_other hne).trans p4⟩
    · refine ⟨⟨by simpa using s.ext.size, fun b hb hn => ?_, fun b cs e fr hc => ?_, s.ext.os, s.ext.tape, s.ext.output⟩, fun b hb => ?_⟩
      · obtain ⟨e1, e2⟩ := s.ext.keep b hb hn
        exact ⟨e1, (World.putObj_heap_other (by omega)).trans e2⟩
      · obtain ⟨cs', fr', e1, e2⟩ := s.ext.shape b cs e fr hc
        have hne : b ≠ r := fun e' => by rw [e', q4] at e1; cases e1
        exact ⟨cs', fr', (World.putObj_heap_other hne).trans e1, e2⟩
      · have hne : b ≠ r := fun e' => hb (e' ▸ (AHeap.un_eq_none.1 q3).2)
        exact (World.putObj_heap_other hne).trans (s.fr b hb)

/-- **A function's contract out of its body**, which is told of in the model. -/
theorem acalls_of_AWP {f : FuncId} {fn : Func} {c : Code} {args : List AV} {R : AV → AHeap → Prop} (hf' : P.funcs[f]? = some fn) (hb : fn.body = some c) (hcall : ∀ (args : Array Value) (w : World), (callFunc f args).run P w = .ok (.enter f args) w)
    (hn : args.length ≤ fn.ntmps) (hw : AWP P none fn.ntmps c (retQ P fn.results.toList R) (entryF args) h) : ACalls P f args h R := by
  refine ⟨hcall, fun hf w vs D Rl rs => ?_⟩
  refine callsIn_of_wp_marks hf' hb trivial ?_ rfl
  have hvl := rs.1
  have G : Good w h hf { tmps := vs.toArray ++ Array.replicate (fn.ntmps - vs.toArray.size) undef, defers := [] } (entryF args) fn.ntmps w.heap.size := by
    refine ⟨D, Rl, fun i => ?_, by simp; omega, ⟨[], rfl, List.nodup_nil, fun r hr => absurd hr (by simp)⟩, Nat.le_refl _⟩
    by_cases hi : i < vs.length
    · have hj : i < args.length := by omega
      have := rs.2 i hi hj
      simpa [entryF, hi, hj, Array.getElem?_append] using this
    · have hj : ¬ i < args.length := by omega
      have e : entryF args i = .undef := by simp [entryF, List.getElem?_eq_none (by omega : args.length ≤ i)]
      rw [e]; exact .undef _
  refine wpIn_mono (hw hf w.heap.size w _ G) ?_
  intro e a' w' T
  have out : ∀ {v : AV} {t' : AF} {h' : AHeap}, resultsA P t' h' fn.results.toList = some v → finA R v h' → Good w' h' hf a' t' fn.ntmps w.heap.size → Stp w h hf w' h' →
      LeavesInM (fence none) 0 P fn a'.tmps (RetTo w h hf R) a'.defers .returning w' := by
    intro v t' h' ev hfin G' s
    obtain ⟨rs', e1, e2, e3⟩ := G'.defers
    rw [e1]
    exact leaves ev hfin rs' w' G'.disj G'.rel G'.frame e2 e3 s
  cases e with
  | normal =>
    obtain ⟨t', h', k, G', s⟩ := T
    simp only [retQ] at k
    split at k
    · next r hr => exact out hr k G' s
    · exact k.elim
  | ret =>
    obtain ⟨t', h', k, G', s⟩ := T
    simp only [retQ] at k
    split at k
    · next r hr => exact out hr k G' s
    · exact k.elim
  | exit id => obtain ⟨t', h', k, _⟩ := T; exact k.elim
  | goto l => obtain ⟨t', h', k, _⟩ := T; exact k.elim
  | panic ch => obtain ⟨t', h', k, _⟩ := T; exact k.elim
  | outgrown => obtain ⟨t', h', k, _⟩ := T; exact k.elim

/-- **A function's contract out of its body.** -/
theorem acalls_of {f : FuncId} {fn : Func} {c : Code} {args : List AV} {R : AV → AHeap → Prop} (hf' : P.funcs[f]? = some fn) (hb : fn.body = some c) (hcall : ∀ (args : Array Value) (w : World), (callFunc f args).run P w = .ok (.enter f args) w)
    (hk : codeOk fn.ntmps c = true) (hn : args.length ≤ fn.ntmps) (hw : awp P none fn.ntmps c (retQ P fn.results.toList R) (entryF args) h) : ACalls P f args h R :=
  acalls_of_AWP hf' hb hcall hn (awp_sound c _ _ h hk hw)
end
end Go.AH

end
