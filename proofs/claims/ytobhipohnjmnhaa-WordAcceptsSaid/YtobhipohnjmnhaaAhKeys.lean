/-
  Keys of maps that are integers, bools, strings, or arrays and structs of such: equality, look-up.
-/
import Derived.Test.YtobhipohnjmnhaaAhStep
import Derived.Laws.StructEq
import Derived.ChangeKeysEq
set_option linter.unusedSimpArgs false
set_option linter.unusedVariables false
set_option linter.unusedSectionVars false
namespace Go.AH
open Go

def kkV : Value → Option KK
  | .bool _ => some .b
  | .int k _ => some (.i k)
  | .string _ => some .s
  | _ => none
def vEq : Value → Value → Bool
  | .bool a, .bool b => a == b
  | .int _ a, .int _ b => a == b
  | .string a, .string b => a.toList == b.toList
  | _, _ => false
def eqs (xs ys : List Value) : Bool := (xs.zip ys).all fun p => vEq p.1 p.2

def flatFs (P : Program) (F : TypeId → Option (List KK)) : List Field → Nat → Option (List KK)
  | [], _ => some []
  | f :: fs, off =>
    if f.name ≠ "_" ∧ f.offset = off then
      match F f.type with
      | some ks => if szT P f.type = some ks.length then (flatFs P F fs (off + ks.length)).map (ks ++ ·) else none
      | none => none
    else none

def flatF (P : Program) : Nat → TypeId → Option (List KK)
  | 0, _ => none
  | n + 1, t =>
    match P.underlying t with
    | some .bool => some [.b]
    | some (.int k) => some [.i k]
    | some .string => some [.s]
    | some (.array len e) =>
      match flatF P n e with
      | some ks => if szT P e = some ks.length then some (List.replicate len ks).flatten else none
      | none => none
    | some (.struct fields) => if P.stoodInHeld t then none else flatFs P (flatF P n) fields.toList 0
    | _ => none

def wideT (P : Program) (t : TypeId) : Bool := match P.underlying t with | some (.struct _) => true | some (.array _ _) => true | _ => false
def valT (P : Program) (t : TypeId) (vs : List Value) : Value := if wideT P t then .agg vs.toArray else vs.headD undef

section
variable {P : Program} (w : World)

theorem kk_len {xs : List Value} {ks : List KK} (h : xs.map kkV = ks.map some) : xs.length = ks.length := by simpa using congrArg List.length h

theorem run_valT {t : TypeId} {xs : List Value} {off s : Nat} (hu : (P.underlying t).isSome = true) (hs : szT P t = some s) (hle : off + s ≤ xs.length) (h1 : wideT P t = false → s = 1) :
    (part t xs.toArray off).run P w = .ok (valT P t ((xs.drop off).take s)) w := by
  have ha : aggT P t = some (wideT P t) := by
    unfold aggT wideT
    cases hd : P.underlying t with
    | none => simp [hd] at hu
    | some d => cases d <;> rfl
  unfold part valT
  simp only [Sem.run_bind, run_isAgg ha, Result.andThen]
  cases hw : wideT P t with
  | true => simp [run_sizeOf hs, List.extract_eq_take_drop]
  | false =>
    have := h1 hw
    subst this
    have hlt : off < xs.length := by omega
    simp only [Bool.false_eq_true, if_false, List.getElem?_toArray, List.getElem?_eq_getElem hlt, Sem.run_pure]
    rw [List.drop_eq_getElem_cons hlt]; rfl

theorem flat_some {n : Nat} {t : TypeId} {ks : List KK} (h : flatF P n t = some ks) : (P.underlying t).isSome = true ∧ (wideT P t = false → ks.length = 1) := by
  cases n with
  | zero => simp [flatF] at h
  | succ n =>
    unfold flatF at h
    unfold wideT
    split at h <;> simp_all
    all_goals (cases h; simp)

def EqF (P : Program) (n : Nat) : Prop := ∀ t ks, flatF P n t = some ks → ∀ d (w : World) (xs ys : List Value), xs.map kkV = ks.map some → ys.map kkV = ks.map some →
    (Op.equalIn (d + n) t (valT P t xs) (valT P t ys)).run P w = .ok (eqs xs ys) w

theorem eqs_append {a b c d : List Value} (h : a.length = b.length) : eqs (a ++ c) (b ++ d) = (eqs a b && eqs c d) := by
  unfold eqs
  rw [List.zip_append h, List.all_append]

theorem run_eqFs {n d : Nat} (IH : EqF P n) (xs ys : List Value) : ∀ (fs : List Field) (off : Nat) (ks : List KK), flatFs P (flatF P n) fs off = some ks →
    (xs.drop off).map kkV = ks.map some → (ys.drop off).map kkV = ks.map some → (Op.eqFields (d + n) xs.toArray ys.toArray fs).run P w = .ok (eqs (xs.drop off) (ys.drop off)) w
  | [], off, ks, h, hx, hy => by
    simp only [flatFs, Option.some.injEq] at h
    subst h
    have e1 : xs.drop off = [] := by simpa using hx
    have e2 : ys.drop off = [] := by simpa using hy
    rw [e1, e2]; simp [Op.eqFields, eqs]
  | f :: fs, off, ks, h, hx, hy => by
    simp only [flatFs] at h
    split at h
    · next hc =>
      obtain ⟨hn, rfl⟩ := hc
      split at h
      · next k1 hk =>
        split at h
        · next hs =>
          cases hr : flatFs P (flatF P n) fs (f.offset + k1.length) with
          | none => rw [hr] at h; cases h
          | some k2 =>
            rw [hr] at h
            simp only [Option.map_some, Option.some.injEq] at h
            subst h
            have lx := kk_len hx
            have ly := kk_len hy
            rw [List.length_drop, List.length_append] at lx ly
            obtain ⟨f1, f2⟩ := flat_some hk
            have sp : ∀ zs : List Value, (zs.drop f.offset).map kkV = (k1 ++ k2).map some → zs.length - f.offset = k1.length + k2.length →
                ((zs.drop f.offset).take k1.length).map kkV = k1.map some ∧ (zs.drop (f.offset + k1.length)).map kkV = k2.map some := by
              intro zs hz hl
              constructor
              · rw [List.map_take, hz, List.map_append, List.take_append_of_le_length (by simp), List.take_of_length_le (by simp)]
              · rw [← List.drop_drop, List.map_drop, hz, List.map_append, List.drop_append_of_le_length (by simp), List.drop_of_length_le (by simp)]; simp
            obtain ⟨x1, x2⟩ := sp xs hx lx
            obtain ⟨y1, y2⟩ := sp ys hy ly
            by_cases hk0 : k1.length + k2.length = 0
            · have hz : k1 = [] := List.eq_nil_of_length_eq_zero (by omega)
              subst hz
              have q := IH _ _ hk d w ((xs.drop f.offset).take 0) ((ys.drop f.offset).take 0) x1 y1
              have px := run_valT (P := P) w (t := f.type) (xs := xs) (off := f.offset) (s := 0) f1 hs
              have py := run_valT (P := P) w (t := f.type) (xs := ys) (off := f.offset) (s := 0) f1 hs
              by_cases hwide : wideT P f.type = true
              · have unf : ∀ zs : List Value, (part f.type zs.toArray f.offset).run P w = .ok (valT P f.type ((zs.drop f.offset).take 0)) w := by
                  intro zs
                  have ha : aggT P f.type = some true := by
                    unfold aggT; unfold wideT at hwide
                    cases hd : P.underlying f.type with
                    | none => simp [hd] at f1
                    | some dd => cases dd <;> simp_all
                  unfold part valT
                  simp only [Sem.run_bind, run_isAgg ha, Result.andThen, hwide, if_true, run_sizeOf hs]
                  simp [List.extract_eq_take_drop]
                simp only [Op.eqFields, hn, ne_eq, not_false_eq_true, if_true, Sem.run_bind, unf, Result.andThen, q]
                have : eqs ((xs.drop f.offset).take 0) ((ys.drop f.offset).take 0) = true := by simp [eqs]
                rw [this]
                simp only [Bool.not_true, Bool.false_eq_true, if_false]
                have r := run_eqFs IH xs ys fs _ k2 hr x2 y2 (d := d)
                simpa using r
              · exact absurd (f2 (by simpa using hwide)) (by simp)
            · have px := run_valT (P := P) w (t := f.type) (xs := xs) (off := f.offset) f1 hs (by omega) f2
              have py := run_valT (P := P) w (t := f.type) (xs := ys) (off := f.offset) f1 hs (by omega) f2
              have q := IH _ _ hk d w _ _ x1 y1
              have r := run_eqFs IH xs ys fs _ k2 hr x2 y2 (d := d)
              simp only [Op.eqFields, hn, ne_eq, not_false_eq_true, if_true, Sem.run_bind, px, py, Result.andThen, q]
              have e : eqs (xs.drop f.offset) (ys.drop f.offset) = (eqs ((xs.drop f.offset).take k1.length) ((ys.drop f.offset).take k1.length) && eqs (xs.drop (f.offset + k1.length)) (ys.drop (f.offset + k1.length))) := by
                rw [← eqs_append (by simp; omega), ← List.drop_drop, ← List.drop_drop, List.take_append_drop, List.take_append_drop]
              rw [e]
              cases eqs ((xs.drop f.offset).take k1.length) ((ys.drop f.offset).take k1.length) with
              | false => simp
              | true => simpa using r
        · cases h
      · cases h
    · cases h

theorem run_eqIs {n d : Nat} (IH : EqF P n) {e : TypeId} {k1 : List KK} (hk : flatF P n e = some k1) (hs : szT P e = some k1.length) (xs ys : List Value) : ∀ (m j : Nat),
    (xs.drop (j * k1.length)).map kkV = ((List.replicate m k1).flatten).map some → (ys.drop (j * k1.length)).map kkV = ((List.replicate m k1).flatten).map some → (j + m) * k1.length ≤ xs.length → (j + m) * k1.length ≤ ys.length →
    (Op.eqItems (d + n) e k1.length xs.toArray ys.toArray (List.range' j m)).run P w = .ok (eqs (xs.drop (j * k1.length)) (ys.drop (j * k1.length))) w
  | 0, j, hx, hy, _, _ => by
    have e1 : xs.drop (j * k1.length) = [] := by simpa using hx
    have e2 : ys.drop (j * k1.length) = [] := by simpa using hy
    rw [e1, e2]; simp [Op.eqItems, eqs]
  | m + 1, j, hx, hy, lx, ly => by
    rw [List.replicate_succ, List.flatten_cons] at hx hy
    obtain ⟨f1, f2⟩ := flat_some hk
    have sp : ∀ zs : List Value, (zs.drop (j * k1.length)).map kkV = (k1 ++ (List.replicate m k1).flatten).map some →
        ((zs.drop (j * k1.length)).take k1.length).map kkV = k1.map some ∧ (zs.drop ((j + 1) * k1.length)).map kkV = ((List.replicate m k1).flatten).map some := by
      intro zs hz
      constructor
      · rw [List.map_take, hz, List.map_append, List.take_append_of_le_length (by simp), List.take_of_length_le (by simp)]
      · rw [Nat.succ_mul, ← List.drop_drop, List.map_drop, hz, List.map_append, List.drop_append_of_le_length (by simp), List.drop_of_length_le (by simp)]; simp
    obtain ⟨x1, x2⟩ := sp xs hx
    obtain ⟨y1, y2⟩ := sp ys hy
    have hj : j * k1.length + k1.length ≤ (j + (m + 1)) * k1.length := by
      rw [← Nat.succ_mul]; exact Nat.mul_le_mul_right _ (by omega)
    have px := run_valT (P := P) w (t := e) (xs := xs) (off := j * k1.length) f1 hs (by omega) f2
    have py := run_valT (P := P) w (t := e) (xs := ys) (off := j * k1.length) f1 hs (by omega) f2
    have q := IH _ _ hk d w _ _ x1 y1
    have r := run_eqIs IH hk hs xs ys m (j + 1) x2 y2 (by rw [Nat.add_right_comm]; exact lx) (by rw [Nat.add_right_comm]; exact ly) (d := d)
    simp only [List.range'_succ, Op.eqItems, Sem.run_bind, px, py, Result.andThen, q]
    have e : eqs (xs.drop (j * k1.length)) (ys.drop (j * k1.length)) = (eqs ((xs.drop (j * k1.length)).take k1.length) ((ys.drop (j * k1.length)).take k1.length) && eqs (xs.drop ((j + 1) * k1.length)) (ys.drop ((j + 1) * k1.length))) := by
      rw [Nat.succ_mul, ← eqs_append (by simp; omega), ← List.drop_drop, ← List.drop_drop, List.take_append_drop, List.take_append_drop]
    rw [e]
    cases eqs ((xs.drop (j * k1.length)).take k1.length) ((ys.drop (j * k1.length)).take k1.length) with
    | false => simp
    | true => simpa using r

theorem one_of_kk {xs : List Value} {k : KK} (h : xs.map kkV = [some k]) : ∃ v, xs = [v] ∧ kkV v = some k := by
  cases xs with
  | nil => simp at h
  | cons v xs => cases xs with
    | nil => simp at h; exact ⟨v, rfl, h⟩
    | cons _ _ => simp at h

theorem eqF_all : ∀ n, EqF P n
  | 0 => by intro t ks h; simp [flatF] at h
  | n + 1 => by
    intro t ks h d w xs ys hx hy
    have IH := eqF_all n
    rw [show d + (n + 1) = (d + n) + 1 from rfl]
    unfold flatF at h
    split at h
    · next hu =>
      cases h
      obtain ⟨v, rfl, kv⟩ := one_of_kk hx
      obtain ⟨v', rfl, kv'⟩ := one_of_kk hy
      cases v <;> simp [kkV] at kv
      cases v' <;> simp [kkV] at kv'
      simp [valT, wideT, hu, Op.equalIn, run_underlying' hu, eqs, vEq]
    · next k hu =>
      cases h
      obtain ⟨v, rfl, kv⟩ := one_of_kk hx
      obtain ⟨v', rfl, kv'⟩ := one_of_kk hy
      cases v <;> simp [kkV] at kv
      cases v' <;> simp [kkV] at kv'
      subst kv; subst kv'
      simp [valT, wideT, hu, Op.equalIn, run_underlying' hu, eqs, vEq]
    · next hu =>
      cases h
      obtain ⟨v, rfl, kv⟩ := one_of_kk hx
      obtain ⟨v', rfl, kv'⟩ := one_of_kk hy
      cases v <;> simp [kkV] at kv
      cases v' <;> simp [kkV] at kv'
      have := run_equalIn_string (P := P) w (d + n) t ‹ByteArray› ‹ByteArray› hu
      simp [valT, wideT, hu, eqs, vEq, run_equalIn_string w (d + n) t _ _ hu]
    · next len e hu =>
      split at h
      · next k1 hk =>
        split at h
        · next hs =>
          simp only [Option.some.injEq] at h
          subst h
          cases hi : P.info? e with
          | none => simp [szT, hi] at hs
          | some i =>
            have hsz : P.cellsOf e = k1.length := by simp [szT, hi] at hs; simp [Program.cellsOf, hi, hs]
            have lx := kk_len hx
            have ly := kk_len hy
            have lf : ((List.replicate len k1).flatten).length = len * k1.length := by simp
            have r := run_eqIs (P := P) (w := w) IH hk hs xs ys len 0 (d := d) (by simpa using hx) (by simpa using hy) (by simp; omega) (by simp; omega)
            have hv : ∀ zs, valT P t zs = .agg zs.toArray := by intro zs; simp [valT, wideT, hu]
            rw [hv, hv, run_equalIn_array w (d + n) xs.toArray ys.toArray hu hi]
            simpa [List.range_eq_range', hsz] using r
        · cases h
      · cases h
    · next fields hu =>
      split at h
      · cases h
      · next hst =>
        have r := run_eqFs (P := P) (w := w) IH xs ys fields.toList 0 ks h (d := d) (by simpa using hx) (by simpa using hy)
        have hv : ∀ zs, valT P t zs = .agg zs.toArray := by intro zs; simp [valT, wideT, hu]
        have hfo : P.fieldsOf t = fields := by simp [Program.fieldsOf, hu]
        rw [hv, hv, run_equalIn_struct w (d + n) t xs.toArray ys.toArray (by rw [hfo]; exact hu) (by simpa using hst), hfo]
        simpa using r
    · cases h

def ChkF (P : Program) (n : Nat) : Prop := ∀ t ks, flatF P n t = some ks → ∀ em d (w : World) (xs : List Value), xs.map kkV = ks.map some → (Instr.checkKey em (d + n) t (valT P t xs)).run P w = .ok () w

theorem chkF_all : ∀ n, ChkF P n
  | 0 => by intro t ks h; simp [flatF] at h
  | n + 1 => by
    intro t ks h em d w xs hx
    have IH := chkF_all n
    rw [show d + (n + 1) = (d + n) + 1 from rfl, Instr.checkKey]
    unfold flatF at h
    split at h
    · next hu => simp [valT, wideT, hu, run_underlying' hu]
    · next k hu => simp [valT, wideT, hu, run_underlying' hu]
    · next hu => simp [valT, wideT, hu, run_underlying' hu]
    · next len e hu =>
      split at h
      · next k1 hk =>
        split at h
        · next hs =>
          simp only [Option.some.injEq] at h
          subst h
          obtain ⟨f1, f2⟩ := flat_some hk
          have hv : valT P t xs = .agg xs.toArray := by simp [valT, wideT, hu]
          rw [hv]
          simp only [Sem.run_bind, run_underlying' hu, Result.andThen_ok]
          simp only [Std.Legacy.Range.forIn_eq_forIn_range', Std.Legacy.Range.size, Nat.sub_zero, Nat.add_one_sub_one, Nat.div_one]
          have lx := kk_len hx
          have key : ∀ (m j : Nat), (xs.drop (j * k1.length)).map kkV = ((List.replicate m k1).flatten).map some → (j + m) * k1.length ≤ xs.length →
              Sem.run P (forIn (List.range' j m) PUnit.unit fun i _ => do
                let s ← sizeOf e
                let p ← part e xs.toArray (i * s)
                Instr.checkKey em (d + n) e p
                pure (ForInStep.yield PUnit.unit)) w = .ok PUnit.unit w := by
            intro m
            induction m with
            | zero => intro j _ _; simp
            | succ m ih =>
              intro j hz hl
              rw [List.replicate_succ, List.flatten_cons] at hz
              have hj : j * k1.length + k1.length ≤ (j + (m + 1)) * k1.length := by
                rw [← Nat.succ_mul]; exact Nat.mul_le_mul_right _ (by omega)
              have z1 : ((xs.drop (j * k1.length)).take k1.length).map kkV = k1.map some := by
                rw [List.map_take, hz, List.map_append, List.take_append_of_le_length (by simp), List.take_of_length_le (by simp)]
              have z2 : (xs.drop ((j + 1) * k1.length)).map kkV = ((List.replicate m k1).flatten).map some := by
                rw [Nat.succ_mul, ← List.drop_drop, List.map_drop, hz, List.map_append, List.drop_append_of_le_length (by simp), List.drop_of_length_le (by simp)]; simp
              have px := run_valT (P := P) w (t := e) (xs := xs) (off := j * k1.length) f1 hs (by omega) f2
              have q := IH _ _ hk em d w _ z1
              simp only [List.range'_succ, List.forIn_cons, Sem.run_bind, run_sizeOf hs, Result.andThen_ok, px, q, Sem.run_pure]
              exact ih (j + 1) z2 (by rw [Nat.add_right_comm]; exact hl)
          have := key len 0 (by simpa using hx) (by have lf : ((List.replicate len k1).flatten).length = len * k1.length := by simp
                                                    simp; omega)
          simp only [bind_pure_comp] at this ⊢
          rw [this]; rfl
        · cases h
      · cases h
    · next fields hu =>
      split at h
      · cases h
      · next hst =>
        have hv : valT P t xs = .agg xs.toArray := by simp [valT, wideT, hu]
        rw [hv]
        simp only [Sem.run_bind, run_underlying' hu, Result.andThen_ok]
        rw [← Array.forIn_toList]
        have key : ∀ (fs : List Field) (off : Nat) (ks : List KK), flatFs P (flatF P n) fs off = some ks → (xs.drop off).map kkV = ks.map some → off ≤ xs.length →
            Sem.run P (forIn fs PUnit.unit fun f _ => do
              if f.name ≠ "_" then do
                let p ← part f.type xs.toArray f.offset
                Instr.checkKey em (d + n) f.type p
                pure (ForInStep.yield PUnit.unit)
              else pure (ForInStep.yield PUnit.unit)) w = .ok PUnit.unit w := by
          intro fs
          induction fs with
          | nil => intro off ks _ _ _; simp
          | cons f fs ih =>
            intro off ks h hz hoff
            simp only [flatFs] at h
            split at h
            · next hc =>
              obtain ⟨hn, rfl⟩ := hc
              split at h
              · next k1 hk =>
                split at h
                · next hs =>
                  cases hr : flatFs P (flatF P n) fs (f.offset + k1.length) with
                  | none => rw [hr] at h; cases h
                  | some k2 =>
                    rw [hr] at h
                    simp only [Option.map_some, Option.some.injEq] at h
                    subst h
                    have lx := kk_len hz
                    rw [List.length_drop, List.length_append] at lx
                    obtain ⟨f1, f2⟩ := flat_some hk
                    have z1 : ((xs.drop f.offset).take k1.length).map kkV = k1.map some := by
                      rw [List.map_take, hz, List.map_append, List.take_append_of_le_length (by simp), List.take_of_length_le (by simp)]
                    have z2 : (xs.drop (f.offset + k1.length)).map kkV = k2.map some := by
                      rw [← List.drop_drop, List.map_drop, hz, List.map_append, List.drop_append_of_le_length (by simp), List.drop_of_length_le (by simp)]; simp
                    have px := run_valT (P := P) w (t := f.type) (xs := xs) (off := f.offset) f1 hs (by omega) f2
                    have q := IH _ _ hk em d w _ z1
                    simp only [List.forIn_cons, Sem.run_bind, hn, ne_eq, not_false_eq_true, if_true, px, q, Result.andThen_ok, Sem.run_pure]
                    exact ih _ k2 hr z2 (by omega)
                · cases h
              · cases h
            · cases h
        have := key fields.toList 0 ks h (by simpa using hx) (Nat.zero_le _)
        simp only [bind_pure_comp] at this ⊢
        rw [this]; rfl
    · cases h

/-- A map type's key, as a shape. -/
def shapeT (P : Program) (t : TypeId) : Option KShape :=
  match P.underlying t with
  | some .bool => some (.one .b)
  | some (.int k) => some (.one (.i k))
  | some .string => some (.one .s)
  | some (.array _ _) => (flatF P 10 t).map .many
  | some (.struct _) => (flatF P 10 t).map .many
  | _ => none

variable {w}
variable {g : AHeap}

theorem kk_rep {v : Value} {a : AV} {k : KK} (r : Rep w g v a) (e : kkOf a = some k) : kkV v = some k := by
  cases r <;> simp_all [kkOf, kkV]

open Classical in
theorem vEq_rep {v v' : Value} {a a' : AV} {k : KK} (r : Rep w g v a) (r' : Rep w g v' a') (e : kkOf a = some k) (e' : kkOf a' = some k) : vEq v v' = decide (a = a') := by
  cases r <;> simp [kkOf] at e
  · cases r' <;> simp [kkOf, ← e] at e'
    rename_i b b'
    by_cases h : b = b' <;> simp [vEq, h]
  · cases r' <;> simp [kkOf, ← e] at e'
    rename_i k0 n k1 n'
    subst e'
    by_cases h : n = n' <;> simp [vEq, h]
  · cases r' <;> simp [kkOf, ← e] at e'
    rename_i s s'
    rw [vEq, toList_eq, toList_eq, Bool.eq_iff_iff]; simp

theorem RepL.kk {vs : List Value} {as : List AV} : ∀ {ks : List KK}, RepL w g vs as → as.map kkOf = ks.map some → vs.map kkV = ks.map some := by
  induction vs generalizing as with
  | nil => intro ks r e
           have : as = [] := List.eq_nil_of_length_eq_zero (by have := r.1; simpa using this.symm)
           subst this
           simpa using e
  | cons v vs ih =>
    intro ks r e
    cases as with
    | nil => exact absurd r.1 (by simp)
    | cons a as =>
      obtain ⟨_, _, e1, r1, r2⟩ := r.uncons
      cases e1
      cases ks with
      | nil => simp at e
      | cons k ks =>
        simp only [List.map_cons, List.cons.injEq] at e ⊢
        exact ⟨kk_rep r1 e.1, ih r2 e.2⟩

open Classical in
theorem eqs_rep {vs vs' : List Value} {as as' : List AV} : ∀ {ks : List KK}, RepL w g vs as → RepL w g vs' as' → as.map kkOf = ks.map some → as'.map kkOf = ks.map some → eqs vs vs' = decide (as = as') := by
  induction vs generalizing as vs' as' with
  | nil => intro ks r r' e e'
           have : as = [] := List.eq_nil_of_length_eq_zero (by have := r.1; simpa using this.symm)
           subst this
           have hk : ks = [] := by simpa using e.symm
           subst hk
           have : as' = [] := by simpa using e'
           subst this
           simp [eqs]
  | cons v vs ih =>
    intro ks r r' e e'
    cases as with
    | nil => exact absurd r.1 (by simp)
    | cons a as =>
      obtain ⟨_, _, e1, r1, r2⟩ := r.uncons
      cases e1
      cases ks with
      | nil => simp at e
      | cons k ks =>
        cases as' with
        | nil => simp at e'
        | cons a' as' =>
          obtain ⟨v', vs'', rfl, r1', r2'⟩ := r'.uncons
          simp only [List.map_cons, List.cons.injEq] at e e'
          have q1 := vEq_rep r1 r1' e.1 e'.1
          have q2 := ih r2 r2' e.2 e'.2
          have : eqs (v :: vs) (v' :: vs'') = (vEq v v' && eqs vs vs'') := rfl
          rw [this, q1, q2, Bool.eq_iff_iff]
          simp

theorem many_rep {ks : List KK} {v : Value} {a : AV} (r : Rep w g v a) (e : (KShape.many ks).ok a = true) : ∃ (vs : List Value) (cells : List AV), v = .agg vs.toArray ∧ a = .agg cells ∧ RepL w g vs cells ∧ cells.map kkOf = ks.map some := by
  cases r <;> simp [KShape.ok] at e
  rename_i vs cells h1 ho hr
  exact ⟨vs, cells, rfl, rfl, ⟨h1, hr⟩, e⟩

open Classical in
/-- The first place of a key. -/
noncomputable def mapIdx (es : List (AV × AV)) (k : AV) : Option Nat := es.findIdx? fun e => decide (e.1 = k)
open Classical in
noncomputable def mapGet : List (AV × AV) → AV → Option AV
  | [], _ => none
  | e :: es, k => if e.1 = k then some e.2 else mapGet es k
open Classical in
noncomputable def mapSet : List (AV × AV) → AV → AV → List (AV × AV)
  | [], k, v => [(k, v)]
  | e :: es, k, v => if e.1 = k then (k, v) :: es else e :: mapSet es k v

/-- Entries and pairs. -/
def RepE (w : World) (g : AHeap) (ents : List MapEntry) (es : List (AV × AV)) : Prop :=
  ents.length = es.length ∧ ∀ i (hi : i < es.length) (hj : i < ents.length), Rep w g ents[i].key es[i].1 ∧ Rep w g ents[i].val es[i].2

theorem RepE.uncons {ents : List MapEntry} {e : AV × AV} {es : List (AV × AV)} (r : RepE w g ents (e :: es)) : ∃ m ms, ents = m :: ms ∧ Rep w g m.key e.1 ∧ Rep w g m.val e.2 ∧ RepE w g ms es := by
  obtain ⟨h1, h2⟩ := r
  cases ents with
  | nil => simp at h1
  | cons m ms =>
    have := h2 0 (by simp) (by simp)
    exact ⟨m, ms, rfl, this.1, this.2, by simpa using h1, fun i hi hj => by have := h2 (i + 1) (by simpa using hi) (by simpa using hj); simpa using this⟩

/-- What a look-up over the list finds. -/
def FoundAt (w : World) (g : AHeap) (ents : List MapEntry) (es : List (AV × AV)) (k : AV) (i0 : Nat) : Option (Nat × Value) → Prop
  | none => mapGet es k = none
  | some (i, x) => ∃ j a, i = i0 + j ∧ mapGet es k = some a ∧ Rep w g x a ∧ (∃ (hj : j < ents.length), ents[j].val = x) ∧ mapIdx es k = some j

theorem foundAt_step_ne {m : MapEntry} {ms : List MapEntry} {e : AV × AV} {es : List (AV × AV)} {k : AV} {i0 : Nat} {r : Option (Nat × Value)} (hne : e.1 ≠ k) (h : FoundAt w g ms es k (i0 + 1) r) : FoundAt w g (m :: ms) (e :: es) k i0 r := by
  cases r with
  | none => simpa [FoundAt, mapGet, hne] using h
  | some p =>
    obtain ⟨i, x⟩ := p
    obtain ⟨j, a, h1, h2, h3, ⟨hj, h4⟩, h5⟩ := h
    refine ⟨j + 1, a, by omega, by simpa [mapGet, hne] using h2, h3, ⟨by simp; omega, by simpa using h4⟩, ?_⟩
    unfold mapIdx at h5 ⊢
    simp [List.findIdx?_cons, hne, h5]

theorem foundAt_step_eq {m : MapEntry} {ms : List MapEntry} {e : AV × AV} {es : List (AV × AV)} {i0 : Nat} (hv : Rep w g m.val e.2) : FoundAt w g (m :: ms) (e :: es) e.1 i0 (some (i0, m.val)) := by
  refine ⟨0, e.2, rfl, by simp [mapGet], hv, ⟨by simp, rfl⟩, ?_⟩
  unfold mapIdx
  simp [List.findIdx?_cons]

theorem sameNow_rep {d : TypeDesc} {k : KK} (hd : (d = .bool ∧ k = .b) ∨ (∃ i, d = .int i ∧ k = .i i) ∨ (d = .string ∧ k = .s)) {v v' : Value} {a a' : AV} (r : Rep w g v a) (r' : Rep w g v' a') (e : kkOf a = some k) (e' : kkOf a' = some k) :
    Instr.sameNow d v v' = some (vEq v v') := by
  rcases hd with ⟨rfl, rfl⟩ | ⟨i, rfl, rfl⟩ | ⟨rfl, rfl⟩
  · cases r <;> simp [kkOf] at e
    cases r' <;> simp [kkOf] at e'
    rfl
  · cases r <;> simp [kkOf] at e
    cases r' <;> simp [kkOf] at e'
    subst e; subst e'
    simp [Instr.sameNow, vEq]
  · cases r <;> simp [kkOf] at e
    cases r' <;> simp [kkOf] at e'
    rename_i s s'
    simp [Instr.sameNow, vEq, beq_toListBytes]

theorem run_findNow {d : TypeDesc} {k : KK} (hd : (d = .bool ∧ k = .b) ∨ (∃ i, d = .int i ∧ k = .i i) ∨ (d = .string ∧ k = .s)) {v : Value} {a : AV} (rv : Rep w g v a) (ea : kkOf a = some k) :
    ∀ (es : List (AV × AV)) (ents : List MapEntry) (i0 : Nat), RepE w g ents es → (∀ e ∈ es, kkOf e.1 = some k) → ∃ r, Instr.findNow d v ents i0 = some r ∧ FoundAt w g ents es a i0 r
  | [], ents, i0, hr, _ => by
    have : ents = [] := List.eq_nil_of_length_eq_zero (by have := hr.1; simpa using this)
    subst this
    exact ⟨none, rfl, by simp [FoundAt, mapGet]⟩
  | e :: es, ents, i0, hr, hk => by
    obtain ⟨m, ms, rfl, r1, r2, r3⟩ := hr.uncons
    have hke := hk e (by simp)
    have hs := sameNow_rep hd rv r1 ea hke
    have hv := vEq_rep rv r1 ea hke
    by_cases heq : e.1 = a
    · subst heq
      have : vEq v m.key = true := by rw [hv]; simp
      rw [this] at hs
      exact ⟨some (i0, m.val), by simp [Instr.findNow, hs], foundAt_step_eq r2⟩
    · have : vEq v m.key = false := by rw [hv]; simp; exact fun h => heq h.symm
      rw [this] at hs
      obtain ⟨r, h1, h2⟩ := run_findNow hd rv ea es ms (i0 + 1) r3 (fun x hx => hk x (by simp [hx]))
      exact ⟨r, by simpa [Instr.findNow, hs] using h1, foundAt_step_ne heq h2⟩

theorem run_findAsking {t : TypeId} {ks : List KK} (hf : flatF P 10 t = some ks) (hw : wideT P t = true) {v : Value} {a : AV} (rv : Rep w g v a) (ea : (KShape.many ks).ok a = true) :
    ∀ (es : List (AV × AV)) (ents : List MapEntry) (i0 : Nat), RepE w g ents es → (∀ e ∈ es, (KShape.many ks).ok e.1 = true) → ∃ r, (Instr.findAsking t v ents i0).run P w = .ok r w ∧ FoundAt w g ents es a i0 r
  | [], ents, i0, hr, _ => by
    have : ents = [] := List.eq_nil_of_length_eq_zero (by have := hr.1; simpa using this)
    subst this
    exact ⟨none, rfl, by simp [FoundAt, mapGet]⟩
  | e :: es, ents, i0, hr, hk => by
    obtain ⟨m, ms, rfl, r1, r2, r3⟩ := hr.uncons
    obtain ⟨vs, cells, hv1, hv2, hv3, hv4⟩ := many_rep rv ea
    obtain ⟨us, cells', hu1, hu2, hu3, hu4⟩ := many_rep r1 (hk e (by simp))
    have q := eqF_all 10 t ks hf (9990) w vs us (hv3.kk hv4) (hu3.kk hu4)
    rw [eqs_rep hv3 hu3 hv4 hu4] at q
    obtain ⟨b, qq, hb⟩ : ∃ b : Bool, (Op.equal t v m.key).run P w = .ok b w ∧ (b = true ↔ cells = cells') :=
      ⟨_, by rw [hv1, hu1]; simpa [valT, hw, Op.equal, Op.maxDepth] using q, by simp⟩
    by_cases heq : e.1 = a
    · have hc : cells = cells' := by rw [hu2, hv2] at heq; cases heq; rfl
      subst heq
      refine ⟨some (i0, m.val), ?_, foundAt_step_eq r2⟩
      simp only [Instr.findAsking, Sem.run_bind, qq, Result.andThen]
      rw [if_pos (hb.2 hc)]; rfl
    · have hc : cells ≠ cells' := fun h => heq (by rw [hu2, hv2, h])
      obtain ⟨r, h1, h2⟩ := run_findAsking hf hw rv ea es ms (i0 + 1) r3 (fun x hx => hk x (by simp [hx]))
      refine ⟨r, ?_, foundAt_step_ne heq h2⟩
      simp only [Instr.findAsking, Sem.run_bind, qq, Result.andThen]
      rw [if_neg (fun h => hc (hb.1 h))]; exact h1

theorem shape_cases {t : TypeId} {sh : KShape} (hs : shapeT P t = some sh) :
    (∃ d k, sh = .one k ∧ P.underlying t = some d ∧ ((d = .bool ∧ k = .b) ∨ (∃ i, d = .int i ∧ k = .i i) ∨ (d = .string ∧ k = .s))) ∨ (∃ ks, sh = .many ks ∧ flatF P 10 t = some ks ∧ wideT P t = true) := by
  unfold shapeT at hs
  split at hs
  · next h => cases hs; exact .inl ⟨_, _, rfl, h, .inl ⟨rfl, rfl⟩⟩
  · next k h => cases hs; exact .inl ⟨_, _, rfl, h, .inr (.inl ⟨_, rfl, rfl⟩)⟩
  · next h => cases hs; exact .inl ⟨_, _, rfl, h, .inr (.inr ⟨rfl, rfl⟩)⟩
  · next h =>
    cases hf : flatF P 10 t with
    | none => rw [hf] at hs; cases hs
    | some ks => rw [hf] at hs; cases hs; exact .inr ⟨ks, rfl, rfl, by simp [wideT, h]⟩
  · next h =>
    cases hf : flatF P 10 t with
    | none => rw [hf] at hs; cases hs
    | some ks => rw [hf] at hs; cases hs; exact .inr ⟨ks, rfl, rfl, by simp [wideT, h]⟩
  · cases hs

theorem run_findKey {t : TypeId} {sh : KShape} (hs : shapeT P t = some sh) {v : Value} {a : AV} (rv : Rep w g v a) (ea : sh.ok a = true) {es : List (AV × AV)} {ents : List MapEntry}
    (hr : RepE w g ents es) (hk : ∀ e ∈ es, sh.ok e.1 = true) : ∃ r, (Instr.findKey t v ents).run P w = .ok r w ∧ FoundAt w g ents es a 0 r := by
  rcases shape_cases hs with ⟨d, k, rfl, hu, hd⟩ | ⟨ks, rfl, hf, hw⟩
  · obtain ⟨r, h1, h2⟩ := run_findNow hd rv (by simpa [KShape.ok] using ea) es ents 0 hr (fun e he => by simpa [KShape.ok] using hk e he)
    exact ⟨r, by simp [Instr.findKey, run_underlying' hu, h1], h2⟩
  · cases ents with
    | nil =>
      have : es = [] := List.eq_nil_of_length_eq_zero (by have := hr.1; simpa using this.symm)
      subst this
      refine ⟨none, ?_, by simp [FoundAt, mapGet]⟩
      unfold wideT at hw
      cases hu : P.underlying t with
      | none => simp [hu] at hw
      | some d => simp [Instr.findKey, run_underlying' hu, Instr.findNow]
    | cons m ms =>
      obtain ⟨r, h1, h2⟩ := run_findAsking hf hw rv ea es (m :: ms) 0 hr hk
      refine ⟨r, ?_, h2⟩
      unfold wideT at hw
      cases hu : P.underlying t with
      | none => simp [hu] at hw
      | some d =>
        have : Instr.findNow d v (m :: ms) 0 = none := by
          cases d <;> simp [hu] at hw <;> simp [Instr.findNow, Instr.sameNow]
        simp only [Instr.findKey, Sem.run_bind, run_underlying' hu, Result.andThen, this]
        exact h1

theorem run_checkKey {t : TypeId} {sh : KShape} (hs : shapeT P t = some sh) {v : Value} {a : AV} (rv : Rep w g v a) (ea : sh.ok a = true) (em : Bool) : (Instr.checkKey em 10000 t v).run P w = .ok () w := by
  rcases shape_cases hs with ⟨d, k, rfl, hu, hd⟩ | ⟨ks, rfl, hf, hw⟩
  · rw [show 10000 = 9999 + 1 from rfl, Instr.checkKey, Sem.run_bind, run_underlying' hu]
    rcases hd with ⟨rfl, rfl⟩ | ⟨i, rfl, rfl⟩ | ⟨rfl, rfl⟩ <;> rfl
  · obtain ⟨vs, cells, hv1, hv2, hv3, hv4⟩ := many_rep rv ea
    have := chkF_all 10 t ks hf em 9990 w vs (hv3.kk hv4)
    rw [hv1]
    simpa [valT, hw] using this
end
end Go.AH
