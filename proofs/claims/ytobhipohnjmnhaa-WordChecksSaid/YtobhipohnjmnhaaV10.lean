/-
  Texts: WdEx2 WdU1 WdMk1 WdMk2 WdMk3.
-/
import Derived.Test.YtobhipohnjmnhaaWdExp
import Derived.Test.YtobhipohnjmnhaaWdSet
import Derived.Test.YtobhipohnjmnhaaV3
import Derived.Test.YtobhipohnjmnhaaA3
import Derived.Test.YtobhipohnjmnhaaV9
import Derived.Test.YtobhipohnjmnhaaWdPrd
set_option linter.unusedSimpArgs false
set_option linter.unusedVariables false
set_option linter.unusedSectionVars false
section
/-
  Plain laws: machines of keys, of which there may be too many.
-/
namespace Go.Proofs
open Go Go.AH
set_option maxRecDepth 10000
set_option maxHeartbeats 4000000
section
variable {α : Type} [DecidableEq α]
/-- The machine of the keys, if there are no more than most. -/
def mkM (ν : α → Nat → α) (most k : Nat) (start : α) (good : α → Bool) : Option Dfa := (rIter ν (most : Int) k start (most + 1)).map fun st => ⟨k, st.2, st.1.map good⟩
/-- What is kept of a machine, if there is one. -/
noncomputable def keptO (o : Option Dfa) : AV := match o with
  | none => .tup [noAuto, .int .i64 21]
  | some M => keptA (leastF M)
structure MkOk (ν : α → Nat → α) (most k : Nat) (start : α) (st : List α × List (List Nat)) : Prop where
  len : st.2.length = st.1.length
  le : st.1.length ≤ most
  wf : ∀ good, (Dfa.mk k st.2 (st.1.map good)).wf
  acc : ∀ (good : α → Bool) (w : List Nat), Ok k w → accW (Dfa.mk k st.2 (st.1.map good)) w = good (runN ν start w)
  nodup : st.1.Nodup
theorem mk_ok (ν : α → Nat → α) (most k : Nat) (hk1 : 1 ≤ k) (hk4 : k ≤ 4) (hm1 : 1 ≤ most) (hm : most < 1000000) (start : α) (st : List α × List (List Nat)) (e : rIter ν (most : Int) k start (most + 1) = some st) : MkOk ν most k start st := by
  have hmost := fun a st => rIter_most ν most hm1 k start a st
  obtain ⟨w1, w2, w3⟩ := rows_wf ν (most : Int) k hk1 hk4 start most hm hmost st e
  obtain ⟨F, F1, F2, F3, F4, F5⟩ := rIter_all ν (most : Int) k start most hmost
  rw [← F5] at e
  have hl := F4 _ e
  obtain ⟨v1, v2⟩ := rIter_val _ _ _ _ F _ F3 e
  have go : ∀ (good : List Bool) (w : List Nat) (s : Nat) (x : α), Ok k w → st.1[s]? = some x → st.1[goW ⟨k, st.2, good⟩ s w]? = some (runN ν x w) := by
    intro good w
    induction w with
    | nil => intro s x _ h; exact h
    | cons i w ih =>
      intro s x hw h
      obtain ⟨y, h1, h2⟩ := v2 s (by have := (List.getElem?_eq_some_iff.1 h).1; omega) i (hw i (by simp))
      rw [h] at h1; cases h1
      exact ih _ _ (fun j hj => hw j (by simp [hj])) h2
  have hwf : ∀ good, (Dfa.mk k st.2 (st.1.map good)).wf := fun good => ⟨w1.k1, w1.k4, w1.n1, w1.nmax, by simp [w2], w1.rl, w1.lt⟩
  refine ⟨w2, w3, hwf, fun good w hw => ?_, ?_⟩
  · have := go (st.1.map good) w 0 start hw v1
    unfold accW
    rw [List.getD_eq_getElem?_getD, List.getElem?_map, this]; rfl
  · exact (rIter_inv ν (most : Int) (fun _ => True) k (fun _ _ _ _ => trivial) start trivial F st e).1
/-- Where there are no more keys than may be, all are found. -/
theorem rRow_some (ν : α → Nat → α) (most k : Nat) (Inv : α → Prop) (hcap : ∀ l : List α, l.Nodup → (∀ y ∈ l, Inv y) → l.length ≤ most) (x : α) (hx : Inv x) (hν : ∀ i, i < k → Inv (ν x i)) (keys : List α) (hk : keys.Nodup ∧ ∀ y ∈ keys, Inv y) :
    ∀ j, j ≤ k → ∃ r, rRow ν (most : Int) x keys j = some r ∧ r.1.Nodup ∧ ∀ y ∈ r.1, Inv y := by
  intro j
  induction j with
  | zero => intro _; exact ⟨(keys, []), by simp [rRow], hk⟩
  | succ j ih =>
    intro hj
    obtain ⟨r, e, h1, h2⟩ := ih (by omega)
    rw [rRow_succ, e]
    simp only [rStep, Option.bind_some]
    by_cases hm : ν x j ∈ r.1
    · rw [if_pos hm]; exact ⟨_, rfl, h1, h2⟩
    · rw [if_neg hm]
      have hnd : (r.1 ++ [ν x j]).Nodup := by
        rw [List.nodup_append]
        refine ⟨h1, by simp, fun a ha b hb => ?_⟩
        simp at hb
        subst hb
        exact fun e => hm (e ▸ ha)
      have hin : ∀ y ∈ r.1 ++ [ν x j], Inv y := fun y hy => by
        rcases List.mem_append.1 hy with q | q
        · exact h2 y q
        · rw [List.mem_singleton.1 q]; exact hν j (by omega)
      have := hcap _ hnd hin
      simp at this
      rw [if_neg (by omega)]
      exact ⟨_, rfl, hnd, hin⟩
theorem rIter_some (ν : α → Nat → α) (most k : Nat) (Inv : α → Prop) (hcap : ∀ l : List α, l.Nodup → (∀ y ∈ l, Inv y) → l.length ≤ most) (hν : ∀ x i, Inv x → i < k → Inv (ν x i)) (start : α) (hs : Inv start) :
    ∀ a, ∃ st, rIter ν (most : Int) k start a = some st ∧ st.1.Nodup ∧ ∀ y ∈ st.1, Inv y := by
  intro a
  induction a with
  | zero => exact ⟨([start], []), rfl, by simp, by simpa using hs⟩
  | succ a ih =>
    obtain ⟨st, e, h1, h2⟩ := ih
    simp only [rIter, e, Option.bind_some]
    cases hx : st.1[a]? with
    | none => exact ⟨st, rfl, h1, h2⟩
    | some x =>
      have hxI := h2 x (List.mem_of_getElem? hx)
      obtain ⟨r, e2, h3, h4⟩ := rRow_some ν most k Inv hcap x hxI (fun i hi => hν x i hxI hi) st.1 ⟨h1, h2⟩ k (Nat.le_refl _)
      simp only [e2, Option.map_some]
      exact ⟨_, rfl, h3, h4⟩
/-- A list of different numbers, told by a code. -/
theorem cap_of {Inv : α → Prop} (enc : α → Nat) (N most : Nat) (h : N ≤ most) (hlt : ∀ x, Inv x → enc x < N) (hinj : ∀ x y, Inv x → Inv y → enc x = enc y → x = y) : ∀ l : List α, l.Nodup → (∀ y ∈ l, Inv y) → l.length ≤ most := by
  intro l hn hi
  have hd : (l.map enc).Nodup := by
    rw [List.Nodup, List.pairwise_map]
    exact hn.imp_of_mem fun {a b} ha hb hne e => hne (hinj a b (hi a ha) (hi b hb) e)
  have := nodup_lt N (l.map enc) hd (fun x hx => by
    obtain ⟨y, hy, rfl⟩ := List.mem_map.1 hx
    exact hlt y (hi y hy))
  simp at this
  omega
theorem mk_some (ν : α → Nat → α) (most k : Nat) (hk1 : 1 ≤ k) (hk4 : k ≤ 4) (hm1 : 1 ≤ most) (hm : most < 1000000) (start : α) (Inv : α → Prop) (hcap : ∀ l : List α, l.Nodup → (∀ y ∈ l, Inv y) → l.length ≤ most) (hν : ∀ x i, Inv x → i < k → Inv (ν x i)) (hs : Inv start) :
    ∃ st, rIter ν (most : Int) k start (most + 1) = some st ∧ MkOk ν most k start st := by
  obtain ⟨st, e, _⟩ := rIter_some ν most k Inv hcap hν start hs (most + 1)
  exact ⟨st, e, mk_ok ν most k hk1 hk4 hm1 hm start st e⟩
end
end Go.Proofs

end

section
/-
  Sets of states as numbers: has, single, goods, each.
-/
namespace Go.Proofs
open Go Go.AH
set_option maxRecDepth 10000
set_option maxHeartbeats 4000000

theorem bits64 : IntKind.u64.bits = 64 := rfl
theorem u64_fit {a : Nat} (ha : a < 2 ^ 64) : ((a : Int) % 2 ^ 64).toNat = a := by omega
theorem u64_or {a b : Nat} (ha : a < 2 ^ 64) (hb : b < 2 ^ 64) : IntKind.u64.wrap ((a ||| b : Nat) : Int) = ((a ||| b : Nat) : Int) := by
  have := Nat.or_lt_two_pow ha hb
  exact wrap_u64 (by omega) (by omega)
theorem u64_and {a b : Nat} (hb : b < 2 ^ 64) : IntKind.u64.wrap ((a &&& b : Nat) : Int) = ((a &&& b : Nat) : Int) := by
  have := Nat.and_lt_two_pow a hb
  exact wrap_u64 (by omega) (by omega)
theorem u64_md {a : Nat} (ha : a < 2 ^ 64) : a % 2 ^ 64 = a := Nat.mod_eq_of_lt ha
theorem u64_tn {i : Nat} (hi : 2 ^ i < 2 ^ 64) : ((2 : Int) ^ i % 18446744073709551616).toNat = 2 ^ i := by
  have : ((2 : Int) ^ i) = ((2 ^ i : Nat) : Int) := by simp
  rw [this]; generalize 2 ^ i = q at hi; omega
theorem bv_and {a b : Nat} (ha : a < 2 ^ 64) (hb : b < 2 ^ 64) : (BitVec.ofNat 64 a &&& BitVec.ofNat 64 b).toNat = a &&& b := by
  rw [BitVec.toNat_and, BitVec.toNat_ofNat, BitVec.toNat_ofNat, Nat.mod_eq_of_lt ha, Nat.mod_eq_of_lt hb]
theorem bv_or {a b : Nat} (ha : a < 2 ^ 64) (hb : b < 2 ^ 64) : (BitVec.ofNat 64 a ||| BitVec.ofNat 64 b).toNat = a ||| b := by
  rw [BitVec.toNat_or, BitVec.toNat_ofNat, BitVec.toNat_ofNat, Nat.mod_eq_of_lt ha, Nat.mod_eq_of_lt hb]
theorem pow_lt64 {i : Nat} (hi : i < 64) : 2 ^ i < 2 ^ 64 := Nat.pow_lt_pow_right (by omega) hi
theorem w_single (i : Nat) (hi : i < 64) : Pure Try.prog 95 [.int .i64 i] (.int .u64 ((2 ^ i : Nat) : Int)) := by
  refine pure_of (acalls_of Try.func95 rfl Try.call95 (by kernel_rfl) (by show _ ≤ (6 : Nat); simp) ?_)
  have h1 : IntKind.u64.wrap (i : Int) = i := wrap_u64 (by omega) (by omega)
  have h2 : min i IntKind.u64.bits = i := by rw [bits64]; omega
  have h3 := pow_lt64 hi
  have h4 : IntKind.u64.wrap (2 ^ i) = ((2 ^ i : Nat) : Int) := by
    have : ((2 : Int) ^ i) = ((2 ^ i : Nat) : Int) := by simp
    rw [this]; exact wrap_u64 (Int.natCast_nonneg _) (Int.ofNat_le.2 (show 2 ^ i ≤ 18446744073709551615 by omega))
  simp [h1, h2, h4]
  exact finA_self (by simp)
theorem w_has (s : Nat) (hs : s < 2 ^ 64) (i : Nat) (hi : i < 64) : Pure Try.prog 94 [.int .u64 s, .int .i64 i] (.bool (s.testBit i)) := by
  refine pure_of (acalls_of Try.func94 rfl Try.call94 (by kernel_rfl) (by show _ ≤ (11 : Nat); simp) ?_)
  have h1 : IntKind.u64.wrap (i : Int) = i := wrap_u64 (by omega) (by omega)
  have h2 : min i IntKind.u64.bits = i := by rw [bits64]; omega
  have h3 : (s : Int).fdiv (2 ^ i) = ((s >>> i : Nat) : Int) := by
    have h0 : (0 : Int) ≤ 2 ^ i := by
      have : ((2 : Int) ^ i) = ((2 ^ i : Nat) : Int) := by simp
      rw [this]; exact Int.natCast_nonneg _
    rw [Int.fdiv_eq_ediv_of_nonneg _ h0, Nat.shiftRight_eq_div_pow]; simp
  have h4 : s >>> i < 2 ^ 64 := Nat.lt_of_le_of_lt (by rw [Nat.shiftRight_eq_div_pow]; exact Nat.div_le_self _ _) hs
  have h5 : ((s : Int) >>> i % 2 ^ 64).toNat = s >>> i := by
    have : ((s : Int) >>> i) = ((s >>> i : Nat) : Int) := by simp
    rw [this]; generalize s >>> i = q at h4; omega
  have h6 := u64_and (a := s >>> i) (b := 1) (by omega)
  have h7 : (decide ((((s >>> i) &&& 1 : Nat) : Int) = 1)) = s.testBit i := by
    rw [Nat.testBit]
    have : 1 &&& (s >>> i) = (s >>> i) &&& 1 := Nat.and_comm _ _
    rw [this]
    have h8 : (s >>> i) &&& 1 < 2 := Nat.and_lt_two_pow _ (n := 1) (by omega)
    generalize (s >>> i) &&& 1 = q at h8
    rcases (show q = 0 ∨ q = 1 by omega) with rfl | rfl <;> rfl
  simp [h1, h2, h3]
  rw [bits64, h5]
  have h9 : 1 % 2 ^ 64 = 1 := rfl
  rw [h9, h6, h7]
  exact finA_self rfl

/-- The set of those for which a test holds. -/
def maskF (p : Nat → Bool) : Nat → Nat
  | 0 => 0
  | n + 1 => if p n then maskF p n ||| 2 ^ n else maskF p n
theorem maskF_bit (p : Nat → Bool) : ∀ n j, (maskF p n).testBit j = (decide (j < n) && p j)
  | 0, j => by simp [maskF]
  | n + 1, j => by
    have ih := maskF_bit p n j
    simp only [maskF]
    split
    · next h =>
      rw [Nat.testBit_or, ih, Nat.testBit_two_pow]
      by_cases e : n = j
      · subst e; simp [h]
      · simp only [e, decide_false, Bool.or_false]
        by_cases hj : j < n
        · simp [hj, show j < n + 1 by omega]
        · simp [hj, show ¬ j < n + 1 by omega]
    · next h =>
      rw [ih]
      by_cases e : j = n
      · subst e; simp [h]
      · by_cases hj : j < n
        · simp [hj, show j < n + 1 by omega]
        · simp [hj, show ¬ j < n + 1 by omega]
theorem maskF_lt (p : Nat → Bool) : ∀ n, maskF p n < 2 ^ n
  | 0 => by simp [maskF]
  | n + 1 => by
    have ih := maskF_lt p n
    have h1 : 2 ^ n < 2 ^ (n + 1) := Nat.pow_lt_pow_right (by omega) (by omega)
    simp only [maskF]
    split
    · exact Nat.or_lt_two_pow (by omega) h1
    · omega
theorem maskF_lt64 (p : Nat → Bool) {n : Nat} (hn : n ≤ 64) : maskF p n < 2 ^ 64 := Nat.lt_of_lt_of_le (maskF_lt p n) (Nat.pow_le_pow_right (by omega) hn)
def gdF (m : Dfa) (i : Nat) : Bool := m.good.getD i false
def goodsF (m : Dfa) : Nat := maskF (gdF m) m.good.length
theorem goodsF_bit (m : Dfa) (j : Nat) : (goodsF m).testBit j = m.good.getD j false := by
  rw [goodsF, maskF_bit, gdF]
  by_cases h : j < m.good.length
  · simp [h]
  · simp [h]

theorem w_goods (m : Dfa) (hm : m.ok) : Pure Try.prog 92 [m.av] (.int .u64 (goodsF m : Nat)) := by
  refine pure_of (acalls_of Try.func92 rfl Try.call92 (by kernel_rfl) (by show _ ≤ (21 : Nat); simp) ?_)
  have hg := hm.gl; have hn64 := hm.n64
  simp [Dfa.av]
  intro b1 hb1
  simp [boolsA]
  refine awp_loop_g (γ := Nat) (fun i t h => (i ≤ m.good.length) ∧ t 3 = .int .u64 (maskF (gdF m) i : Nat) ∧ t 7 = .sl m.good.length (m.good.map .bool) ∧ t 8 = .int .i64 m.good.length ∧ t 9 = .int .i64 i) (fun i => m.good.length - i) (0) (turnA_self (by simp [maskF])) ?_
  rintro i t h ⟨hi, h3, h7, h8, h9⟩
  by_cases hlt : i < m.good.length
  · have hwi : IntKind.i64.wrap ((i : Int) + 1) = (i : Int) + 1 := wrap_i64 (by omega) (by omega)
    have ha := maskF_lt64 (gdF m) (n := i) (by omega)
    have hb := pow_lt64 (i := i) (by omega)
    have hor := u64_or ha hb
    have cs := w_single i (by omega)
    by_cases hgi : m.good[i] = true
    · have hst : maskF (gdF m) (i + 1) = maskF (gdF m) i ||| 2 ^ i := by simp [maskF, gdF, hlt, hgi]
      simp [h3, h7, h8, h9, hlt, hgi]
      refine cs.use ?_
      simp [h3, h7, h8, h9, hlt]
      refine turnA_self ⟨i + 1, by omega, by omega, by simp [h3, h7, h8, h9, hwi, hst, bits64, u64_tn hb, u64_md ha, hor]⟩
    · have hst : maskF (gdF m) (i + 1) = maskF (gdF m) i := by simp [maskF, gdF, hlt, hgi]
      simp [h3, h7, h8, h9, hlt, hgi]
      exact turnA_self ⟨i + 1, by omega, by omega, by simp [h3, h7, h8, h9, hwi, hst]⟩
  · obtain rfl : i = m.good.length := by omega
    simp [h3, h7, h8, h9]
    exact finA_drop rfl

/-- The union of what a map makes of a set's members. -/
def eachF (s : Nat) (φ : Nat → Nat) : Nat → Nat
  | 0 => 0
  | n + 1 => if s.testBit n then eachF s φ n ||| φ n else eachF s φ n
theorem eachF_bit (s : Nat) (φ : Nat → Nat) (j : Nat) : ∀ n, (eachF s φ n).testBit j = (List.range n).any fun i => s.testBit i && (φ i).testBit j
  | 0 => by simp [eachF]
  | n + 1 => by
    have ih := eachF_bit s φ j n
    rw [List.range_succ, List.any_append, ← ih]
    simp only [eachF, List.any_cons, List.any_nil, Bool.or_false]
    split
    · next h => rw [Nat.testBit_or, h]; simp
    · next h => simp [h]
theorem eachF_lt (s : Nat) (φ : Nat → Nat) (M : Nat) : ∀ n, (∀ i, i < n → s.testBit i = true → φ i < 2 ^ M) → eachF s φ n < 2 ^ M
  | 0, _ => by simp [eachF]; exact Nat.two_pow_pos M
  | n + 1, h => by
    have ih := eachF_lt s φ M n fun i hi => h i (by omega)
    simp only [eachF]
    split
    · next hb => exact Nat.or_lt_two_pow ih (h n (by omega) hb)
    · exact ih
theorem w_each (s : Nat) (hs : s < 2 ^ 64) (f : AV) (φ : Nat → Nat) (H : AHeap) (hφ : ∀ i, i < 64 → s.testBit i = true → φ i < 2 ^ 64 ∧ ACallV Try.prog f [.int .i64 (i : Int)] H fun r h' => r = .int .u64 ((φ i : Nat) : Int) ∧ h' = H) :
    ACalls Try.prog 98 [.int .u64 s, f] H fun r h' => r = .int .u64 ((eachF s φ 64 : Nat) : Int) ∧ h' = H := by
  refine acalls_of Try.func98 rfl Try.call98 (by kernel_rfl) (by show _ ≤ (20 : Nat); simp) ?_
  simp
  refine awp_loop_g (γ := Nat) (fun i t h => (i ≤ 64) ∧ t 0 = .int .u64 s ∧ t 1 = f ∧ t 5 = .int .u64 (eachF s φ i : Nat) ∧ t 7 = .int .i64 i ∧ h = H) (fun i => 64 - i) (0) (turnA_self (by simp [eachF])) ?_
  rintro i t h ⟨hi, h0, h1, h5, h7, rfl⟩
  by_cases hlt : i < 64
  · have hltI : (i : Int) < 64 := by omega
    have hwi : IntKind.i64.wrap ((i : Int) + 1) = (i : Int) + 1 := wrap_i64 (by omega) (by omega)
    have ch := w_has s hs i hlt
    have ha : eachF s φ i < 2 ^ 64 := eachF_lt s φ 64 i fun j hj hb => (hφ j (by omega) hb).1
    simp [h0, h1, h5, h7, hltI, hlt]
    refine ch.use ?_
    by_cases hb : s.testBit i = true
    · obtain ⟨hb1, hb2⟩ := hφ i hlt hb
      have hor := u64_or ha hb1
      have hst : eachF s φ (i + 1) = eachF s φ i ||| φ i := by simp [eachF, hb]
      simp [h0, h1, h5, h7, hb]
      refine hb2.use ?_
      simp [h0, h1, h5, h7, hb]
      exact turnA_self ⟨i + 1, by omega, by omega, by simp [h0, h1, h5, h7, hwi, hst, bits64, u64_md ha, u64_md hb1, hor]⟩
    · have hb' : s.testBit i = false := by simpa using hb
      have hst : eachF s φ (i + 1) = eachF s φ i := by simp [eachF, hb']
      simp [h0, h1, h5, h7, hb']
      exact turnA_self ⟨i + 1, by omega, by omega, by simp [h0, h1, h5, h7, hwi, hst]⟩
  · obtain rfl : i = 64 := by omega
    simp [h0, h1, h5, h7]
    exact finA_self ⟨rfl, rfl⟩
end Go.Proofs

end

section
/-
  Walks: Repeat.
-/
namespace Go.Proofs
open Go Go.AH
set_option maxRecDepth 10000
set_option maxHeartbeats 4000000

theorem w_next1 (fn : FuncId) (M : Dfa) (hM : M.ok) (s : Nat) (hs : s < M.next.length) (i : Nat) (hi : i < M.k) (H : AHeap) (ba bi : Nat)
    (ea : ∀ off, cellsAt H ba off = some (([.int .i64 (M.k : Int), nrowsA M.next, boolsA M.good] : List AV).drop off)) (ei : cellsAt H bi 0 = some [.int .i64 (i : Int)]) :
    ACallV Try.prog (.fn (.func 99) [] [.ptr ba 0, .ptr bi 0]) [.int .i64 (s : Int)] H fun r h' => r = .int .u64 ((2 ^ nx M s i : Nat) : Int) ∧ h' = H := by
  rw [ACallV_func]
  refine acalls_of Try.func99 rfl Try.call99 (by kernel_rfl) (by show _ ≤ (14 : Nat); simp) ?_
  have r1 : M.next[s].length = M.k := hM.rl _ (List.getElem_mem hs)
  have v1 : nx M s i = M.next[s][i] := by simp [nx, hs, r1, hi]
  have hlt := nx_lt hM.wf hs hi
  have hn64 := hM.n64
  have cs := w_single (nx M s i) (by omega)
  rw [v1] at cs ⊢
  simp
  refine awp_draw_text (by kernel_rfl) [13] [(.fn (.func 95) [] [], [.int .i64 (M.next[s][i] : Nat)], .int .u64 ((2 ^ M.next[s][i] : Nat) : Int))] (by kernel_rfl) (by kernel_rfl) (by simp; simpa using PureV.of cs) ?_
  simp [ea, ei, nrowsA, natsA, hs, r1, hi]
  exact finA_self (by simp)

/-- What a letter makes of a loop. -/
def loopY (M : Dfa) (b i : Nat) : Nat := eachF b (fun s => 2 ^ nx M s i) 64
def loopN (M : Dfa) (x : Lp) (i : Nat) : Lp := ⟨true, if loopY M x.b i &&& goodsF M = 0 then loopY M x.b i else loopY M x.b i ||| 1⟩
theorem bit_lt {b n s : Nat} (hb : b < 2 ^ n) (h : b.testBit s = true) : s < n := by
  refine Classical.byContradiction fun hn => ?_
  have : b < 2 ^ s := Nat.lt_of_lt_of_le hb (Nat.pow_le_pow_right (by omega) (by omega))
  rw [Nat.testBit_lt_two_pow this] at h
  cases h
theorem loopY_lt {M : Dfa} (hM : M.ok) {b i : Nat} (hb : b < 2 ^ M.next.length) (hi : i < M.k) : loopY M b i < 2 ^ M.next.length :=
  eachF_lt _ _ _ _ fun s _ h => Nat.pow_lt_pow_right (by omega) (nx_lt hM.wf (bit_lt hb h) hi)
theorem goodsF_lt {M : Dfa} (hM : M.ok) : goodsF M < 2 ^ M.next.length := by
  have := maskF_lt (gdF M) M.good.length
  rw [hM.gl] at this
  unfold goodsF
  rw [hM.gl]; exact this
theorem n_lt64 {M : Dfa} (hM : M.ok) {b : Nat} (hb : b < 2 ^ M.next.length) : b < 2 ^ 64 := Nat.lt_of_lt_of_le hb (Nat.pow_le_pow_right (by omega) hM.n64)
theorem one_lt {M : Dfa} (hM : M.ok) : 1 < 2 ^ M.next.length := Nat.one_lt_two_pow (by have := hM.n1; omega)
theorem loopN_lt {M : Dfa} (hM : M.ok) {x : Lp} {i : Nat} (hb : x.b < 2 ^ M.next.length) (hi : i < M.k) : (loopN M x i).b < 2 ^ M.next.length := by
  have := loopY_lt hM hb hi
  unfold loopN
  simp only
  split
  · exact this
  · exact Nat.or_lt_two_pow this (one_lt hM)

theorem w_Repeat1 (M : Dfa) (hM : M.ok) (x : Lp) (hx : x.b < 2 ^ M.next.length) (i : Nat) (hi : i < M.k) (H : AHeap) (ba : Nat) (ea : ∀ off, cellsAt H ba off = some (([.int .i64 (M.k : Int), nrowsA M.next, boolsA M.good] : List AV).drop off)) :
    ACallV Try.prog (.fn (.func 97) [] [.ptr ba 0]) [lpA x, .int .i64 (i : Int)] H fun r h' => r = lpA (loopN M x i) ∧ h' = H := by
  rw [ACallV_func]
  refine acalls_of Try.func97 rfl Try.call97 (by kernel_rfl) (by show _ ≤ (21 : Nat); simp) ?_
  have hx64 := n_lt64 hM hx
  have hy := loopY_lt hM hx hi
  have hy64 := n_lt64 hM hy
  have hg64 := n_lt64 hM (goodsF_lt hM)
  have cg := w_goods M hM
  have cs := w_single 0 (by omega)
  simp only [Dfa.av] at cg
  simp [lpA]
  intro b3 hb3
  have n3 := ne_fresh (ea 0) hb3
  simp
  intro b4 hb4
  simp at hb4
  have n4 := ne_fresh (ea 0) hb4.2.2
  simp [hb4]
  intro b5 hb5
  simp at hb5
  have n5 := ne_fresh (ea 0) hb5.2.2.2.2
  simp [hb4, hb5]
  obtain ⟨HH, hHH⟩ : ∃ HH, HH = ((H.upd b3 (.cells [.bool x.a, .int .u64 (x.b : Int)])).upd b4 (.cells [.int .i64 (i : Int)])).upd b5 (.cells [.bool false, .int .u64 0]) := ⟨_, rfl⟩
  have ea2 : ∀ off, cellsAt HH ba off = some (([.int .i64 (M.k : Int), nrowsA M.next, boolsA M.good] : List AV).drop off) := by intro off; rw [hHH]; simp [n3, n4, n5, ea]
  have e4 : cellsAt HH b4 0 = some [.int .i64 (i : Int)] := by rw [hHH]; simp [hb4, hb5]
  have e5 : ∀ off, cellsAt HH b5 off = some (([.bool false, .int .u64 0] : List AV).drop off) := by intro off; rw [hHH]; simp
  have hD : Drop HH H := by rw [hHH]; exact (((Drop.refl _).new hb3).new hb4.2.2).new hb5.2.2.2.2
  rw [← hHH]
  have ce := w_each x.b hx64 (.fn (.func 99) [] [.ptr ba 0, .ptr b4 0]) (fun s => 2 ^ nx M s i) HH fun s hs hb => ⟨n_lt64 hM (Nat.pow_lt_pow_right (by omega) (nx_lt hM.wf (bit_lt hx hb) hi)), w_next1 0 M hM s (bit_lt hx hb) i hi HH ba b4 ea2 e4⟩
  have hyy : eachF x.b (fun s => 2 ^ nx M s i) 64 = loopY M x.b i := rfl
  rw [hyy] at ce
  clear hyy
  have hre : loopN M x i = ⟨true, if loopY M x.b i &&& goodsF M = 0 then loopY M x.b i else loopY M x.b i ||| 1⟩ := rfl
  rw [hre]
  generalize loopY M x.b i = y at ce hy64 hy
  refine ce.use ?_
  simp [ea2]
  refine cg.use ?_
  have hand := u64_and (a := y) hg64
  have hor := u64_or hy64 (show 1 < 2 ^ 64 by omega)
  simp
  simp only [bits64, u64_md hy64, u64_md hg64, hand]
  have hcut : (((y &&& goodsF M : Nat) : Int) = 0) ↔ (y &&& goodsF M = 0) := by omega
  by_cases hz : y &&& goodsF M = 0
  · simp [hz, e5]
    exact finA_same H (hD.upd hb5.2.2.2.2) ⟨by simp [lpA], rfl⟩
  · simp [hz]
    refine cs.use ?_
    simp [e5]
    have h1 : (1 : Nat) % 2 ^ 64 = 1 := rfl
    simp only [bits64, u64_md hy64, h1, hor]
    exact finA_same H (hD.upd hb5.2.2.2.2) ⟨by simp [lpA, hz], rfl⟩

/-- Is a loop good? -/
def loopG (M : Dfa) (x : Lp) : Bool := !x.a || decide (¬ x.b &&& goodsF M = 0)
def repM (M : Dfa) : Option Dfa := mkM (loopN M) 400000 M.k ⟨false, 1⟩ (loopG M)
theorem w_Repeat (M : Dfa) (hM : M.ok) : Pure Try.prog 50 [M.av] (keptO (repM M)) := by
  refine pure_of (acalls_of Try.func50 rfl Try.call50 (by kernel_rfl) (by show _ ≤ (59 : Nat); simp) ?_)
  have c0 := w_check M hM
  have cg := w_goods M hM
  have cs := w_single 0 (by omega)
  have hk1 := hM.k1; have hk4 := hM.k4
  have hg64 := n_lt64 hM (goodsF_lt hM)
  have hmost := fun a st => rIter_most (loopN M) 400000 (by omega) M.k (⟨false, 1⟩ : Lp) a st
  have hInv := rIter_inv (loopN M) (400000 : Nat) (fun x => x.b < 2 ^ M.next.length) M.k (fun x i hx hi => loopN_lt hM hx hi) ⟨false, 1⟩ (one_lt hM)
  have hmk := mk_ok (loopN M) 400000 M.k hk1 hk4 (by omega) (by omega) (⟨false, 1⟩ : Lp)
  obtain ⟨F, F1, F2, F3, F4, F5⟩ := rIter_all (loopN M) (400000 : Nat) M.k (⟨false, 1⟩ : Lp) 400000 hmost
  simp only [Dfa.av] at c0 cg ⊢
  simp
  intro b1 hb1
  simp
  intro b2 hb2
  simp at hb2
  simp [hb2]
  refine c0.use ?_
  simp [hb2]
  obtain ⟨HB, hHB⟩ : ∃ HB, HB = (AHeap.empty.upd b1 (.cells [.int .i64 M.k, nrowsA M.next, boolsA M.good])).upd b2 (.cells [.int .i64 0, .nilsl, .nilsl]) := ⟨_, rfl⟩
  have hB1 : ∀ off, cellsAt HB b1 off = some (([.int .i64 (M.k : Int), nrowsA M.next, boolsA M.good] : List AV).drop off) := by intro off; rw [hHB]; simp [hb2]
  have hB2 : ∀ off, cellsAt HB b2 off = some (([.int .i64 0, .nilsl, .nilsl] : List AV).drop off) := by intro off; rw [hHB]; simp
  have hBd : Drop HB AHeap.empty := Drop.empty _
  have hBu : ∀ c, HB.upd b2 c = (AHeap.empty.upd b1 (.cells [.int .i64 M.k, nrowsA M.next, boolsA M.good])).upd b2 c := by intro c; rw [hHB]; simp
  rw [← hHB]
  have c1 := w_reachedL ⟨false, 1⟩ M.k hk4 hk1 (400000 : Nat) (.fn (.func 97) [] [.ptr b1 0]) (loopN M) (fun x => x.b < 2 ^ M.next.length) (one_lt hM) (fun x i hx hi => loopN_lt hM hx hi) HB
    (fun x i hx hi => w_Repeat1 M hM x hx i hi HB b1 hB1) F (by omega) F2 F3 F4
  rw [F5] at c1
  have hres : repM M = (rIter (loopN M) ((400000 : Nat) : Int) M.k ⟨false, 1⟩ (400000 + 1)).map fun st => ⟨M.k, st.2, st.1.map (loopG M)⟩ := rfl
  rw [hres]
  generalize hR : rIter (loopN M) ((400000 : Nat) : Int) M.k (⟨false, 1⟩ : Lp) (400000 + 1) = R at c1
  simp only [lpA] at c1
  refine awp_draw_text (by kernel_rfl) [18] [(.fn (.func 95) [] [], [.int .i64 0], .int .u64 1)] (by kernel_rfl) (by kernel_rfl) (by simp; simpa using PureV.of cs) ?_
  simp [hB1]
  refine c1.use ?_
  have hz : ∀ (a b c d : AV), splice [a, b] 0 [c, d] = [c, d] := fun _ _ _ _ => rfl
  cases R with
  | none =>
    simp [rchA, hB1]
    intro b8 hb8
    have n1 := ne_fresh (hB1 0) hb8; have n2 := ne_fresh (hB2 0) hb8
    simp [hB1, n1, n2]
    have ck := w_keptF (.agg [.int .i64 M.k, .nilsl, .nilsl]) rfl
    refine awp_loop_g (γ := Unit) (fun g t h => t 2 = .ptr b2 0 ∧ t 7 = .bool false ∧ t 8 = .ptr b8 0 ∧ t 32 = .int .i64 0 ∧ t 33 = .int .i64 0 ∧ h = HB.upd b8 (.cells [.int .i64 M.k, .nilsl, .nilsl])) (fun g => 0) (()) (turnA_self (by simp)) ?_
    rintro g t h ⟨h2, h7, h8, h32, h33, rfl⟩
    simp [h2, h7, h8, h32, h33, n2]
    refine ck.use ?_
    simp [h2, h7, h8, h32, h33, n1, n2, hB2, noAuto]
    exact finA_drop rfl
  | some st =>
    obtain ⟨keys, rows⟩ := st
    have hok := hmk _ hR
    obtain ⟨gd, hgd⟩ : ∃ gd : Lp → Bool, gd = loopG M := ⟨_, rfl⟩
    have hwf := hok.wf gd
    have ck := w_keptT _ hwf
    have hinv := (hInv _ _ hR).2
    have hle := hok.le
    have hn := hok.len
    have hl1 : 1 ≤ keys.length := by have := hwf.n1; simp only at this hn; omega
    simp only at hwf ck hinv hle hn
    simp only [Dfa.av] at ck
    obtain ⟨L, hL⟩ : ∃ L, L = keys.length := ⟨_, rfl⟩
    simp [rchA, lpsA, hB1, ← hL]
    intro b8 hb8
    have n1 := ne_fresh (hB1 0) hb8; have n2 := ne_fresh (hB2 0) hb8
    simp [hB1, n1, n2]
    refine awp_loop_g (γ := Nat × Option Nat) (fun q t h => (q.1 ≤ L) ∧ ((q.2 = none → q.1 = 0) ∧ ∀ b, q.2 = some b → Fresh HB b ∧ ¬ b = b8 ∧ ¬ b8 = b) ∧ t 1 = .ptr b1 0 ∧ t 2 = .ptr b2 0 ∧ t 7 = .bool true ∧ t 8 = .ptr b8 0 ∧ t 31 = .sl L (fllp keys) ∧ t 32 = .int .i64 L ∧ t 33 = .int .i64 q.1 ∧ h = (HB.upd b8 (.cells [.int .i64 M.k, nrowsA rows, ownV q.2 q.1 1])).updO q.2 (((keys.take q.1).map gd).map .bool)) (fun q => L - q.1) ((0, none)) (turnA_self (by simp [n1, n2])) ?_
    rintro q t h ⟨hi, ho, h1, h2, h7, h8, h31, h32, h33, rfl⟩
    obtain ⟨i, o⟩ := q
    simp only at h1 h2 h7 h8 h31 h32 h33 hi ho
    by_cases hlt : i < L
    · have hik : i < keys.length := by omega
      obtain ⟨x, hxe⟩ : ∃ x, keys[i]? = some x := ⟨keys[i], by simp [hik]⟩
      have hxk : keys[i] = x := by rw [List.getElem?_eq_getElem hik] at hxe; exact Option.some.inj hxe
      have hxI := hinv x (List.mem_of_getElem? hxe)
      have hx64 := n_lt64 hM hxI
      obtain ⟨rr, hdr⟩ := fllp_drop keys i x hxe
      have htake : keys.take (i + 1) = keys.take i ++ [x] := by rw [← hxk, List.take_append_getElem]
      have hw : IntKind.i64.wrap ((i : Int) + 1) = (i : Int) + 1 := wrap_i64 (by omega) (by omega)
      have hand := u64_and (a := x.b) hg64
      have hval : gd x = (!x.a || decide (¬ x.b &&& goodsF M = 0)) := by rw [hgd]; rfl
      have hzI : decide (((x.b &&& goodsF M : Nat) : Int) = 0) = decide (x.b &&& goodsF M = 0) := by
        by_cases h : x.b &&& goodsF M = 0
        · simp [h]
        · have : ¬ (((x.b &&& goodsF M : Nat) : Int) = 0) := by omega
          simp [h, this]
      simp [h1, h2, h7, h8, h31, h32, h33, hlt, hik, hdr]
      rcases o with _ | b
      · obtain rfl : i = 0 := ho.1 rfl
        simp
        intro b10 hb10
        simp at hb10
        have m1 := ne_fresh (hB1 0) hb10.2.2; have m2 := ne_fresh (hB2 0) hb10.2.2
        simp [h1, h2, h7, h8, h31, h32, h33, hz, hb10]
        refine awp_draw_text (by kernel_rfl) [46] [(.fn (.func 92) [] [], [.agg [.int .i64 M.k, nrowsA M.next, boolsA M.good]], .int .u64 (goodsF M : Nat))] (by kernel_rfl) (by kernel_rfl) (by simp; exact PureV.of cg) ?_
        simp only [Nat.zero_add] at htake
        cases hxa : x.a with
        | false =>
          simp [h1, h2, h7, h8, h31, h32, h33, hB1, n1, n2, m1, m2, hb10, hz, hxa]
          intro b13 hb13
          simp at hb13
          simp [h1, h2, h7, h8, h31, h32, h33, hb10, hb13]
          intro b14 hb14
          simp at hb14
          simp [h1, h2, h7, h8, h31, h32, h33, hb10, hb13, hb14, hw]
          refine turnA_to ((HB.upd b8 (.cells [.int .i64 M.k, nrowsA rows, .osl b14 0 1 1])).upd b14 (.cells (((keys.take 1).map gd).map .bool))) ?_ ⟨1, by omega, by omega, some b14, by simp [h1, h2, h7, h8, h31, h32, h33, hb14]⟩
          rw [htake]
          simp [hval, hxa]
          refine Drop.both (Drop.new (Drop.new (Drop.refl _) ?_) ?_) <;> simp [hb10, hb13]
        | true =>
          simp [h1, h2, h7, h8, h31, h32, h33, hB1, n1, n2, m1, m2, hb10, hz, hxa]
          simp only [bits64, u64_md hx64, u64_md hg64, hand, hzI]
          intro b13 hb13
          simp at hb13
          simp [h1, h2, h7, h8, h31, h32, h33, hb10, hb13]
          intro b14 hb14
          simp at hb14
          simp [h1, h2, h7, h8, h31, h32, h33, hb10, hb13, hb14, hw]
          refine turnA_to ((HB.upd b8 (.cells [.int .i64 M.k, nrowsA rows, .osl b14 0 1 1])).upd b14 (.cells (((keys.take 1).map gd).map .bool))) ?_ ⟨1, by omega, by omega, some b14, by simp [h1, h2, h7, h8, h31, h32, h33, hb14]⟩
          rw [htake]
          simp [hval, hxa]
          refine Drop.both (Drop.new (Drop.new (Drop.refl _) ?_) ?_) <;> simp [hb10, hb13]
      · have ho1 := ho.2 b rfl
        have p1 := ne_fresh (hB1 0) ho1.1; have p2 := ne_fresh (hB2 0) ho1.1
        simp [ho1]
        intro b10 hb10
        simp at hb10
        have hlen : min i keys.length = i := by omega
        have m1 := ne_fresh (hB1 0) hb10.2.2.2.2; have m2 := ne_fresh (hB2 0) hb10.2.2.2.2
        simp [h1, h2, h7, h8, h31, h32, h33, hz, hb10, ho1]
        refine awp_draw_text (by kernel_rfl) [46] [(.fn (.func 92) [] [], [.agg [.int .i64 M.k, nrowsA M.next, boolsA M.good]], .int .u64 (goodsF M : Nat))] (by kernel_rfl) (by kernel_rfl) (by simp; exact PureV.of cg) ?_
        cases hxa : x.a with
        | false =>
          simp [h1, h2, h7, h8, h31, h32, h33, hB1, n1, n2, m1, m2, p1, p2, hb10, hz, hxa, ho1]
          intro b13 hb13
          simp at hb13
          simp [h1, h2, h7, h8, h31, h32, h33, hb10, hb13, ho1, hlen]
          refine ⟨by omega, ?_⟩
          intro b14 hb14
          simp at hb14
          simp [h1, h2, h7, h8, h31, h32, h33, hb10, hb13, hb14, hw, ho1]
          refine turnA_to ((HB.upd b8 (.cells [.int .i64 M.k, nrowsA rows, .osl b14 0 (i + 1) 1])).upd b14 (.cells (((keys.take (i + 1)).map gd).map .bool))) ?_ ⟨i + 1, by omega, by omega, some b14, by simp [h1, h2, h7, h8, h31, h32, h33, hb14]⟩
          rw [htake]
          simp [hval, hxa]
          refine Drop.both (Drop.new (Drop.new (Drop.refl _) ?_) ?_) <;> simp [hb10, hb13]
        | true =>
          simp [h1, h2, h7, h8, h31, h32, h33, hB1, n1, n2, m1, m2, p1, p2, hb10, hz, hxa, ho1]
          simp only [bits64, u64_md hx64, u64_md hg64, hand, hzI]
          intro b13 hb13
          simp at hb13
          simp [h1, h2, h7, h8, h31, h32, h33, hb10, hb13, ho1, hlen]
          refine ⟨by omega, ?_⟩
          intro b14 hb14
          simp at hb14
          simp [h1, h2, h7, h8, h31, h32, h33, hb10, hb13, hb14, hw, ho1]
          refine turnA_to ((HB.upd b8 (.cells [.int .i64 M.k, nrowsA rows, .osl b14 0 (i + 1) 1])).upd b14 (.cells (((keys.take (i + 1)).map gd).map .bool))) ?_ ⟨i + 1, by omega, by omega, some b14, by simp [h1, h2, h7, h8, h31, h32, h33, hb14]⟩
          rw [htake]
          simp [hval, hxa]
          refine Drop.both (Drop.new (Drop.new (Drop.refl _) ?_) ?_) <;> simp [hb10, hb13]
    · obtain rfl : i = L := by omega
      rcases o with _ | b
      · have := ho.1 rfl; omega
      have ho1 := ho.2 b rfl
      have p1 := ne_fresh (hB1 0) ho1.1; have p2 := ne_fresh (hB2 0) ho1.1
      simp [h1, h2, h7, h8, h31, h32, h33, hB1, n1, n2, ho1, p1, p2]
      refine ACalls.turn 2 HB (Drop.sub (Drop.new (Drop.new (Drop.refl _) hb8) ho1.1) 2) ?_
      have hfr : ([.agg [.int .i64 M.k, nrowsA rows, .osl b 0 i 1], .bool true] : List AV).map (frzF 2 ((HB.upd b8 (.cells [.int .i64 M.k, nrowsA rows, .osl b 0 i 1])).upd b (.cells (List.take i (List.map (AV.bool ∘ gd) keys)))) HB) = [.agg [.int .i64 M.k, nrowsA rows, boolsA (keys.map gd)], .bool true] := by
        have hf0 : ∀ h h' a, frzF 0 h h' a = a := fun _ _ _ => rfl
        simp [frz_osl ho1.1, hf0, boolsA, nrowsA, ← hL, List.take_of_length_le]
      rw [hfr]
      refine ck.use ?_
      simp only [keptO, keptA, Option.map_some]
      rw [← hgd]
      split
      · simp [h1, h2, h7, h8, h31, h32, h33, hB2, noAuto]
        exact finA_drop rfl
      · simp [h1, h2, h7, h8, h31, h32, h33, hB2, Dfa.av]
        exact finA_drop rfl
end Go.Proofs

end

section
/-
  Walks: Follow.
-/
namespace Go.Proofs
open Go Go.AH
set_option maxRecDepth 10000
set_option maxHeartbeats 4000000

theorem TurnF.refl (k : Nat) (h h' : AHeap) (t : AF) : TurnF k h h' t t := fun _ => .inl rfl
theorem TurnF.put {k : Nat} {h h' : AHeap} {t t' : AF} (x : TurnF k h h' t t') (d : Nat) {v : AV} (e : frzF k h h' (t d) = v) : TurnF k h h' t (t'.put d v) := fun i => by
  by_cases hi : i = d
  · subst hi; rw [AF.put_same]; exact .inr e.symm
  · rw [AF.put_ne _ _ _ _ hi]; exact x i
/-- Blocks are given up: the slots that point there are told by value. -/
theorem AWP_to {P : Program} {ro : Option Nat} {N : Nat} {c : Code} {Q : Exit → AF → AHeap → Prop} {t t' : AF} {h h' : AHeap} (k : Nat) (s : Drop h h') (x : TurnF k h h' t t') (q : AWP P ro N c Q t' h') : AWP P ro N c Q t h := AWP.turn ⟨k, h', t', s.sub k, x, q⟩
/-- An automaton's cells. -/
def Dfa.cells (M : Dfa) : List AV := [.int .i64 (M.k : Int), nrowsA M.next, boolsA M.good]
theorem cells_frozen (M : Dfa) : ∀ a ∈ M.cells, a.frozen = true := by
  intro a ha
  simp only [Dfa.cells, List.mem_cons, List.mem_nil_iff, or_false] at ha
  rcases ha with rfl | rfl | rfl <;> first | rfl | simp
@[simp] theorem frz_cells (M : Dfa) {k : Nat} {h h' : AHeap} : M.cells.map (frzF k h h') = M.cells := map_frozen (cells_frozen M)

theorem w_eachP (s : Nat) (hs : s < 2 ^ 64) (f : AV) (φ : Nat → Nat) (hφ : ∀ i, i < 64 → s.testBit i = true → φ i < 2 ^ 64 ∧ PureV Try.prog f [.int .i64 (i : Int)] (.int .u64 ((φ i : Nat) : Int))) :
    Pure Try.prog 98 [.int .u64 s, f] (.int .u64 ((eachF s φ 64 : Nat) : Int)) := fun H => w_each s hs f φ H fun i hi hb => ⟨(hφ i hi hb).1, (hφ i hi hb).2 H⟩

theorem w_next2 (M : Dfa) (hM : M.ok) (s : Nat) (hs : s < M.next.length) (i : Nat) (hi : i < M.k) :
    PureV Try.prog (.fn (.func 103) [] [.fptr M.cells, .fptr [.int .i64 (i : Int)]]) [.int .i64 (s : Int)] (.int .u64 ((2 ^ nx M s i : Nat) : Int)) := by
  refine PureV.func (pure_of (acalls_of Try.func103 rfl Try.call103 (by kernel_rfl) (by show _ ≤ (14 : Nat); simp) ?_))
  have r1 : M.next[s].length = M.k := hM.rl _ (List.getElem_mem hs)
  have v1 : nx M s i = M.next[s][i] := by simp [nx, hs, r1, hi]
  have hlt := nx_lt hM.wf hs hi
  have hn64 := hM.n64
  have cs := w_single (nx M s i) (by omega)
  rw [v1] at cs ⊢
  simp [Dfa.cells]
  refine awp_draw_text (by kernel_rfl) [13] [(.fn (.func 95) [] [], [.int .i64 (M.next[s][i] : Nat)], .int .u64 ((2 ^ M.next[s][i] : Nat) : Int))] (by kernel_rfl) (by kernel_rfl) (by simp; simpa using PureV.of cs) ?_
  simp [nrowsA, natsA, hs, r1, hi]
  exact finA_self (by simp)

/-- Where a word of the one language may end, one of the other begins. -/
def entN (A : Dfa) (x : Tw) : Tw := if A.good.getD x.a false then ⟨x.a, x.b ||| 1⟩ else x
def folN (A B : Dfa) (x : Tw) (i : Nat) : Tw := entN A ⟨nx A x.a i, loopY B x.b i⟩
def folG (B : Dfa) (x : Tw) : Bool := decide (¬ x.b &&& goodsF B = 0)
noncomputable def folM (A B : Dfa) : Option Dfa := mkM (folN A B) 400000 A.k (entN A ⟨0, 0⟩) (folG B)
def FolI (A B : Dfa) (x : Tw) : Prop := x.a < A.next.length ∧ x.b < 2 ^ B.next.length
theorem entN_inv {A B : Dfa} (hB : B.ok) {x : Tw} (h : FolI A B x) : FolI A B (entN A x) := by
  unfold entN
  split
  · exact ⟨h.1, Nat.or_lt_two_pow h.2 (one_lt hB)⟩
  · exact h
theorem folN_inv {A B : Dfa} (hA : A.ok) (hB : B.ok) (hk : A.k = B.k) {x : Tw} {i : Nat} (h : FolI A B x) (hi : i < A.k) : FolI A B (folN A B x i) :=
  entN_inv hB ⟨nx_lt hA.wf h.1 hi, loopY_lt hB h.2 (by omega)⟩

theorem w_enter (A B : Dfa) (hA : A.ok) (hB : B.ok) (x : Tw) (hx : FolI A B x) :
    PureV Try.prog (.fn (.func 100) [] [.fptr A.cells]) [prA x] (prA (entN A x)) := by
  refine PureV.func (pure_of (acalls_of Try.func100 rfl Try.call100 (by kernel_rfl) (by show _ ≤ (16 : Nat); simp) ?_))
  obtain ⟨hxa, hxb⟩ := hx
  have hb64 := n_lt64 hB hxb
  have hg : x.a < A.good.length := by rw [hA.gl]; exact hxa
  have cs := w_single 0 (by omega)
  have hor := u64_or hb64 (show 1 < 2 ^ 64 by omega)
  have h1 : (1 : Nat) % 2 ^ 64 = 1 := rfl
  have hz : ∀ (a b c d : AV), splice [a, b] 0 [c, d] = [c, d] := fun _ _ _ _ => rfl
  simp [prA, Dfa.cells]
  intro b2 hb2
  simp
  intro b3 hb3
  simp at hb3
  simp [hb3, boolsA, hg]
  by_cases hgd : A.good[x.a] = true
  · have he : entN A x = ⟨x.a, x.b ||| 1⟩ := by simp [entN, hg, hgd]
    simp [hgd]
    refine awp_draw_text (by kernel_rfl) [12] [(.fn (.func 95) [] [], [.int .i64 0], .int .u64 1)] (by kernel_rfl) (by kernel_rfl) (by simp; simpa using PureV.of cs) ?_
    simp [hb3, hz]
    simp only [bits64, u64_md hb64, h1, hor]
    exact finA_drop (by rw [he]; simp [prA])
  · have he : entN A x = x := by simp [entN, hg, hgd]
    simp [hgd, hb3, hz]
    exact finA_drop (by rw [he]; simp [prA])

theorem w_Follow2 (A B : Dfa) (hA : A.ok) (hB : B.ok) (hk : A.k = B.k) (x : Tw) (hx : FolI A B x) (i : Nat) (hi : i < A.k) :
    PureV Try.prog (.fn (.func 102) [] [.fptr [.fn (.func 100) [] [.fptr A.cells]], .fptr A.cells, .fptr B.cells]) [prA x, .int .i64 (i : Int)] (prA (folN A B x i)) := by
  refine PureV.func (pure_of (acalls_of Try.func102 rfl Try.call102 (by kernel_rfl) (by show _ ≤ (24 : Nat); simp) ?_))
  have hx64 := n_lt64 hB hx.2
  have hy := loopY_lt hB hx.2 (show i < B.k by omega)
  have hxa := hx.1
  have r1 : A.next[x.a].length = A.k := hA.rl _ (List.getElem_mem hxa)
  have v1 : nx A x.a i = A.next[x.a][i] := by simp [nx, hxa, r1, hi]
  have hna := nx_lt hA.wf hxa hi
  simp [prA]
  intro b5 hb5
  simp
  intro b6 hb6
  simp at hb6
  simp [hb6]
  intro b7 hb7
  simp at hb7
  simp [hb6, hb7]
  have ce := w_eachP x.b hx64 (.fn (.func 103) [] [.fptr B.cells, .fptr [.int .i64 (i : Int)]]) (fun s => 2 ^ nx B s i) fun s hs hb => ⟨n_lt64 hB (Nat.pow_lt_pow_right (by omega) (nx_lt hB.wf (bit_lt hx.2 hb) (by omega))), w_next2 B hB s (bit_lt hx.2 hb) i (by omega)⟩
  have hyy : eachF x.b (fun s => 2 ^ nx B s i) 64 = loopY B x.b i := rfl
  rw [hyy] at ce
  clear hyy
  have cn := w_enter A B hA hB ⟨nx A x.a i, loopY B x.b i⟩ ⟨hna, hy⟩
  have hre : folN A B x i = entN A ⟨nx A x.a i, loopY B x.b i⟩ := rfl
  rw [hre]
  generalize loopY B x.b i = y at ce hy cn
  generalize entN A ⟨nx A x.a i, y⟩ = z at cn
  rw [v1] at cn
  simp only [prA] at cn
  have hz : ∀ (a b c d : AV), splice [a, b] 0 [c, d] = [c, d] := fun _ _ _ _ => rfl
  have hD : Drop (((AHeap.empty.upd b5 (.cells [.int .i64 (x.a : Int), .int .u64 (x.b : Int)])).upd b6 (.cells [.int .i64 (i : Int)])).upd b7 (.cells [.int .i64 0, .int .u64 0])) (AHeap.empty.upd b7 (.cells [.int .i64 0, .int .u64 0])) := Drop.both (Drop.new (Drop.new (Drop.refl _) hb5) (by simp))
  refine AWP_to 2 hD (TurnF.put (TurnF.put (TurnF.refl _ _ _ _) 5 (v := .fptr [.int .i64 (x.a : Int), .int .u64 (x.b : Int)]) (by simp [hb6, hb7])) 6 (v := .fptr [.int .i64 (i : Int)]) (by simp [hb6, hb7])) ?_
  refine awp_draw_text (by kernel_rfl) [8, 10, 12, 14, 15, 17, 19, 21, 23] [(.fn (.func 98) [] [], [.int .u64 x.b, .fn (.func 103) [] [.fptr B.cells, .fptr [.int .i64 (i : Int)]]], .int .u64 (y : Int)), (.fn (.func 100) [] [.fptr A.cells], [.agg [.int .i64 (A.next[x.a][i] : Nat), .int .u64 (y : Int)]], .agg [.int .i64 (z.a : Int), .int .u64 (z.b : Int)])] (by kernel_rfl) (by kernel_rfl) (by simp; exact ⟨PureV.of ce, cn⟩) ?_
  simp [Dfa.cells, nrowsA, natsA, hxa, r1, hi, hb7]
  exact finA_drop (by simp [prA])

theorem w_Follow (A B : Dfa) (hA : A.ok) (hB : B.ok) (hk : A.k = B.k) : Pure Try.prog 51 [A.av, B.av] (keptO (folM A B)) := by
  refine pure_of (acalls_of Try.func51 rfl Try.call51 (by kernel_rfl) (by show _ ≤ (60 : Nat); simp) ?_)
  have c0 := w_checkTwo A B hA hB
  rw [if_pos hk] at c0
  have cg := w_goods B hB
  have hk1 := hA.k1; have hk4 := hA.k4
  have hg64 := n_lt64 hB (goodsF_lt hB)
  have hst : FolI A B (entN A ⟨0, 0⟩) := entN_inv hB ⟨hA.n1, Nat.two_pow_pos _⟩
  have ce := w_enter A B hA hB ⟨0, 0⟩ ⟨hA.n1, Nat.two_pow_pos _⟩
  obtain ⟨z, hzz⟩ : ∃ z, z = entN A ⟨0, 0⟩ := ⟨_, rfl⟩
  have hres : folM A B = (rIter (folN A B) ((400000 : Nat) : Int) A.k z (400000 + 1)).map fun st => ⟨A.k, st.2, st.1.map (folG B)⟩ := by rw [hzz]; rfl
  rw [← hzz] at hst ce
  rw [hres]
  clear hzz hres
  have hmost := fun a st => rIter_most (folN A B) 400000 (by omega) A.k z a st
  have hInv := rIter_inv (folN A B) (400000 : Nat) (FolI A B) A.k (fun x i hx hi => folN_inv hA hB hk hx hi) z hst
  have hmk := mk_ok (folN A B) 400000 A.k hk1 hk4 (by omega) (by omega) z
  obtain ⟨F, F1, F2, F3, F4, F5⟩ := rIter_all (folN A B) (400000 : Nat) A.k z 400000 hmost
  simp only [Dfa.av] at c0 cg ⊢
  simp
  intro b2 hb2
  simp
  intro b3 hb3
  simp at hb3
  simp [hb3]
  intro b4 hb4
  simp at hb4
  simp [hb3, hb4]
  refine c0.use ?_
  simp [hb3, hb4]
  intro b7 hb7
  simp at hb7
  simp [hb3, hb4, hb7]
  obtain ⟨HB, hHB⟩ : ∃ HB, HB = AHeap.empty.upd b4 (.cells [.int .i64 0, .nilsl, .nilsl]) := ⟨_, rfl⟩
  have hB4 : ∀ off, cellsAt HB b4 off = some (([.int .i64 0, .nilsl, .nilsl] : List AV).drop off) := by intro off; rw [hHB]; simp
  refine AWP_to (h' := HB) 4 ?_ (TurnF.put (TurnF.put (TurnF.put (TurnF.refl _ _ _ _) 2 (v := .fptr A.cells) ?_) 3 (v := .fptr B.cells) ?_) 7 (v := .fptr [.fn (.func 100) [] [.fptr A.cells]]) ?_) ?_
  · rw [hHB]
    exact Drop.new (Drop.both (Drop.new (Drop.new (Drop.refl _) (by simp)) (by simp))) (by simp [hb7])
  · rw [hHB]; simp [hb3, hb4, hb7, Dfa.cells]
  · rw [hHB]; simp [hb3, hb4, hb7, Dfa.cells]
  · rw [hHB]; simp [hb3, hb4, hb7, Dfa.cells]
  have c1 := w_reachedP z A.k hk4 hk1 (400000 : Nat) (.fn (.func 102) [] [.fptr [.fn (.func 100) [] [.fptr A.cells]], .fptr A.cells, .fptr B.cells]) (folN A B) (FolI A B) hst (fun x i hx hi => folN_inv hA hB hk hx hi) HB
    (fun x i hx hi => w_Follow2 A B hA hB hk x hx i hi HB) F (by omega) F2 F3 F4
  rw [F5] at c1
  generalize hR : rIter (folN A B) ((400000 : Nat) : Int) A.k z (400000 + 1) = R at c1
  simp only [prA] at c1 ce
  refine awp_draw_text (by kernel_rfl) [23, 25, 27] [(.fn (.func 100) [] [.fptr A.cells], [.agg [.int .i64 0, .int .u64 0]], .agg [.int .i64 (z.a : Int), .int .u64 (z.b : Int)])] (by kernel_rfl) (by kernel_rfl) (by simp; exact ce) ?_
  simp [Dfa.cells]
  refine c1.use ?_
  have hz : ∀ (a b c d : AV), splice [a, b] 0 [c, d] = [c, d] := fun _ _ _ _ => rfl
  cases R with
  | none =>
    simp [rchA, Dfa.cells]
    intro b8 hb8
    have n2 := ne_fresh (hB4 0) hb8
    simp [n2]
    have ck := w_keptF (.agg [.int .i64 A.k, .nilsl, .nilsl]) rfl
    refine awp_loop_g (γ := Unit) (fun g t h => t 3 = .fptr [.int .i64 B.k, nrowsA B.next, boolsA B.good] ∧ t 4 = .ptr b4 0 ∧ t 10 = .bool false ∧ t 11 = .ptr b8 0 ∧ t 38 = .int .i64 0 ∧ t 39 = .int .i64 0 ∧ h = HB.upd b8 (.cells [.int .i64 A.k, .nilsl, .nilsl])) (fun g => 0) (()) (turnA_self (by simp)) ?_
    rintro g t h ⟨h3, h4, h10, h11, h38, h39, rfl⟩
    simp [h3, h4, h10, h11, h38, h39, n2]
    refine ck.use ?_
    simp [h3, h4, h10, h11, h38, h39, n2, hB4, noAuto]
    exact finA_drop rfl
  | some st =>
    obtain ⟨keys, rows⟩ := st
    have hok := hmk _ hR
    obtain ⟨gd, hgd⟩ : ∃ gd : Tw → Bool, gd = folG B := ⟨_, rfl⟩
    have hwf := hok.wf gd
    have ck := w_keptT _ hwf
    have hinv := (hInv _ _ hR).2
    have hle := hok.le
    have hn := hok.len
    have hl1 : 1 ≤ keys.length := by have := hwf.n1; simp only at this hn; omega
    simp only at hwf ck hinv hle hn
    simp only [Dfa.av] at ck
    obtain ⟨L, hL⟩ : ∃ L, L = keys.length := ⟨_, rfl⟩
    simp [rchA, prsA, Dfa.cells, ← hL]
    intro b8 hb8
    have n2 := ne_fresh (hB4 0) hb8
    simp [n2]
    refine awp_loop_g (γ := Nat × Option Nat) (fun q t h => (q.1 ≤ L) ∧ ((q.2 = none → q.1 = 0) ∧ ∀ b, q.2 = some b → Fresh HB b ∧ ¬ b = b8 ∧ ¬ b8 = b) ∧ t 3 = .fptr [.int .i64 B.k, nrowsA B.next, boolsA B.good] ∧ t 4 = .ptr b4 0 ∧ t 10 = .bool true ∧ t 11 = .ptr b8 0 ∧ t 37 = .sl L (flpr keys) ∧ t 38 = .int .i64 L ∧ t 39 = .int .i64 q.1 ∧ h = (HB.upd b8 (.cells [.int .i64 A.k, nrowsA rows, ownV q.2 q.1 1])).updO q.2 (((keys.take q.1).map gd).map .bool)) (fun q => L - q.1) ((0, none)) (turnA_self (by simp [n2, Dfa.cells])) ?_
    rintro q t h ⟨hi, ho, h3, h4, h10, h11, h37, h38, h39, rfl⟩
    obtain ⟨i, o⟩ := q
    simp only at h3 h4 h10 h11 h37 h38 h39 hi ho
    by_cases hlt : i < L
    · have hik : i < keys.length := by omega
      obtain ⟨x, hxe⟩ : ∃ x, keys[i]? = some x := ⟨keys[i], by simp [hik]⟩
      have hxk : keys[i] = x := by rw [List.getElem?_eq_getElem hik] at hxe; exact Option.some.inj hxe
      have hxI' := hinv x (List.mem_of_getElem? hxe)
      have hxI := hxI'.2
      have hx64 := n_lt64 hB hxI
      obtain ⟨rr, hdr⟩ := flpr_drop keys i x hxe
      have htake : keys.take (i + 1) = keys.take i ++ [x] := by rw [← hxk, List.take_append_getElem]
      have hw : IntKind.i64.wrap ((i : Int) + 1) = (i : Int) + 1 := wrap_i64 (by omega) (by omega)
      have hand := u64_and (a := x.b) hg64
      have hval : gd x = decide (¬ x.b &&& goodsF B = 0) := by rw [hgd]; rfl
      have hzI : decide (((x.b &&& goodsF B : Nat) : Int) = 0) = decide (x.b &&& goodsF B = 0) := by
        by_cases h : x.b &&& goodsF B = 0
        · simp [h]
        · have : ¬ (((x.b &&& goodsF B : Nat) : Int) = 0) := by omega
          simp [h, this]
      simp [h3, h4, h10, h11, h37, h38, h39, hlt, hik, hdr]
      rcases o with _ | b
      · obtain rfl : i = 0 := ho.1 rfl
        simp
        intro b10 hb10
        simp at hb10
        have m2 := ne_fresh (hB4 0) hb10.2.2
        simp [h3, h4, h10, h11, h37, h38, h39, hz, hb10, Dfa.cells]
        refine awp_draw_text (by kernel_rfl) [48] [(.fn (.func 92) [] [], [.agg [.int .i64 B.k, nrowsA B.next, boolsA B.good]], .int .u64 (goodsF B : Nat))] (by kernel_rfl) (by kernel_rfl) (by simp; exact PureV.of cg) ?_
        simp only [Nat.zero_add] at htake
        simp [h3, h4, h10, h11, h37, h38, h39, n2, m2, hb10, hz]
        simp only [bits64, u64_md hx64, u64_md hg64, hand, hzI]
        intro b13 hb13
        simp at hb13
        simp [h3, h4, h10, h11, h37, h38, h39, hb10, hb13]
        intro b14 hb14
        simp at hb14
        simp [h3, h4, h10, h11, h37, h38, h39, hb10, hb13, hb14, hw]
        refine turnA_to ((HB.upd b8 (.cells [.int .i64 A.k, nrowsA rows, .osl b14 0 1 1])).upd b14 (.cells (((keys.take 1).map gd).map .bool))) ?_ ⟨1, by omega, by omega, some b14, by simp [h3, h4, h10, h11, h37, h38, h39, hb14]⟩
        rw [htake]
        simp [hval, hval]
        refine Drop.both (Drop.new (Drop.new (Drop.refl _) ?_) ?_) <;> simp [hb10, hb13]
      · have ho1 := ho.2 b rfl
        have p2 := ne_fresh (hB4 0) ho1.1
        simp [ho1]
        intro b10 hb10
        simp at hb10
        have hlen : min i keys.length = i := by omega
        have m2 := ne_fresh (hB4 0) hb10.2.2.2.2
        simp [h3, h4, h10, h11, h37, h38, h39, hz, hb10, ho1, Dfa.cells]
        refine awp_draw_text (by kernel_rfl) [48] [(.fn (.func 92) [] [], [.agg [.int .i64 B.k, nrowsA B.next, boolsA B.good]], .int .u64 (goodsF B : Nat))] (by kernel_rfl) (by kernel_rfl) (by simp; exact PureV.of cg) ?_
        simp [h3, h4, h10, h11, h37, h38, h39, n2, m2, p2, hb10, hz, ho1]
        simp only [bits64, u64_md hx64, u64_md hg64, hand, hzI]
        intro b13 hb13
        simp at hb13
        simp [h3, h4, h10, h11, h37, h38, h39, hb10, hb13, ho1, hlen]
        refine ⟨by omega, ?_⟩
        intro b14 hb14
        simp at hb14
        simp [h3, h4, h10, h11, h37, h38, h39, hb10, hb13, hb14, hw, ho1]
        refine turnA_to ((HB.upd b8 (.cells [.int .i64 A.k, nrowsA rows, .osl b14 0 (i + 1) 1])).upd b14 (.cells (((keys.take (i + 1)).map gd).map .bool))) ?_ ⟨i + 1, by omega, by omega, some b14, by simp [h3, h4, h10, h11, h37, h38, h39, hb14]⟩
        rw [htake]
        simp [hval, hval]
        refine Drop.both (Drop.new (Drop.new (Drop.refl _) ?_) ?_) <;> simp [hb10, hb13]
    · obtain rfl : i = L := by omega
      rcases o with _ | b
      · have := ho.1 rfl; omega
      have ho1 := ho.2 b rfl
      have p2 := ne_fresh (hB4 0) ho1.1
      simp [h3, h4, h10, h11, h37, h38, h39, n2, ho1, p2]
      refine ACalls.turn 2 HB (Drop.sub (Drop.new (Drop.new (Drop.refl _) hb8) ho1.1) 2) ?_
      have hfr : ([.agg [.int .i64 A.k, nrowsA rows, .osl b 0 i 1], .bool true] : List AV).map (frzF 2 ((HB.upd b8 (.cells [.int .i64 A.k, nrowsA rows, .osl b 0 i 1])).upd b (.cells (List.take i (List.map (AV.bool ∘ gd) keys)))) HB) = [.agg [.int .i64 A.k, nrowsA rows, boolsA (keys.map gd)], .bool true] := by
        have hf0 : ∀ h h' a, frzF 0 h h' a = a := fun _ _ _ => rfl
        simp [frz_osl ho1.1, hf0, boolsA, nrowsA, ← hL, List.take_of_length_le]
      rw [hfr]
      refine ck.use ?_
      simp only [keptO, keptA, Option.map_some]
      rw [← hgd]
      split
      · simp [h3, h4, h10, h11, h37, h38, h39, hB4, noAuto]
        exact finA_drop rfl
      · simp [h3, h4, h10, h11, h37, h38, h39, hB4, Dfa.av]
        exact finA_drop rfl
end Go.Proofs

end

section
/-
  Walks: Reverse.
-/
namespace Go.Proofs
open Go Go.AH
set_option maxRecDepth 10000
set_option maxHeartbeats 4000000

/-- The states from which a letter leads into a set. -/
def revN (M : Dfa) (x i : Nat) : Nat := maskF (fun s => x.testBit (nx M s i)) M.next.length
def revG (x : Nat) : Bool := x.testBit 0
def revM (M : Dfa) : Option Dfa := mkM (revN M) 65 M.k (goodsF M) revG
theorem revN_lt (M : Dfa) (x i : Nat) : revN M x i < 2 ^ M.next.length := maskF_lt _ _

theorem w_Reverse1 (M : Dfa) (hM : M.ok) (x : Nat) (hx : x < 2 ^ M.next.length) (i : Nat) (hi : i < M.k) :
    PureV Try.prog (.fn (.func 93) [] [.fptr M.cells]) [.int .u64 (x : Int), .int .i64 (i : Int)] (.int .u64 ((revN M x i : Nat) : Int)) := by
  refine PureV.func (pure_of (acalls_of Try.func93 rfl Try.call93 (by kernel_rfl) (by show _ ≤ (29 : Nat); simp) ?_))
  have hn64 := hM.n64
  have hx64 := n_lt64 hM hx
  have hr : ∀ s, s < M.next.length → ∃ r, M.next[s]? = some r ∧ r.length = M.k := fun s hs => ⟨M.next[s], by simp [hs], hM.rl _ (List.getElem_mem hs)⟩
  obtain ⟨p, hp⟩ : ∃ p : Nat → Bool, p = fun s => x.testBit (nx M s i) := ⟨_, rfl⟩
  have hre : revN M x i = maskF p M.next.length := by rw [hp]; rfl
  rw [hre]
  simp [Dfa.cells, nrowsA]
  refine awp_loop_g (γ := Nat) (fun s t h => (s ≤ M.next.length) ∧ t 0 = .int .u64 (x : Int) ∧ t 1 = .int .i64 (i : Int) ∧ t 6 = .int .u64 (maskF p s : Nat) ∧ t 10 = .sl M.next.length (M.next.map natsA) ∧ t 11 = .int .i64 M.next.length ∧ t 12 = .int .i64 s) (fun s => M.next.length - s) (0) (turnA_self (by simp [maskF])) ?_
  rintro s t h ⟨hs, h0, h1, h6, h10, h11, h12⟩
  by_cases hlt : s < M.next.length
  · have hwi : IntKind.i64.wrap ((s : Int) + 1) = (s : Int) + 1 := wrap_i64 (by omega) (by omega)
    have hrl : M.next[s].length = M.k := hM.rl _ (List.getElem_mem hlt)
    have hv : nx M s i = M.next[s][i] := by simp [nx, hlt, hrl, hi]
    have hnl := nx_lt hM.wf hlt hi
    have ch := w_has x hx64 (nx M s i) (by omega)
    have hpv : p s = x.testBit (nx M s i) := by rw [hp]
    rw [← hpv, hv] at ch
    have cs := w_single s (by omega)
    have ha := maskF_lt64 p (n := s) (by omega)
    have hb := pow_lt64 (i := s) (by omega)
    have hor := u64_or ha hb
    simp [h0, h1, h6, h10, h11, h12, hlt, natsA, hrl, hi]
    refine ch.use ?_
    by_cases hps : p s = true
    · have hst : maskF p (s + 1) = maskF p s ||| 2 ^ s := by simp [maskF, hps]
      simp [h0, h1, h6, h10, h11, h12, hps]
      refine cs.use ?_
      simp [h0, h1, h6, h10, h11, h12]
      exact turnA_self ⟨s + 1, by omega, by omega, by simp [h0, h1, h6, h10, h11, h12, hwi, hst, bits64, u64_tn hb, u64_md ha, hor]⟩
    · have hps' : p s = false := by simpa using hps
      have hst : maskF p (s + 1) = maskF p s := by simp [maskF, hps']
      simp [h0, h1, h6, h10, h11, h12, hps']
      exact turnA_self ⟨s + 1, by omega, by omega, by simp [h0, h1, h6, h10, h11, h12, hwi, hst]⟩
  · obtain rfl : s = M.next.length := by omega
    simp [h0, h1, h6, h10, h11, h12]
    exact finA_self rfl

theorem w_Reverse (A : Dfa) (hA : A.ok) : Pure Try.prog 49 [A.av] (keptO (revM (leastF A))) := by
  refine pure_of (acalls_of Try.func49 rfl Try.call49 (by kernel_rfl) (by show _ ≤ (56 : Nat); simp) ?_)
  have c0 := w_check A hA
  have co := w_of A
  have cl := w_leastP hA.wf
  have hM : (leastF A).ok := (least_canon hA.wf).ok (Nat.le_trans (least_n hA.wf) hA.n64)
  generalize leastF A = M at cl hM
  have ca := w_auto M
  have cg := w_goods M hM
  have hk1 := hM.k1; have hk4 := hM.k4
  have hst := goodsF_lt hM
  have hres : revM M = (rIter (revN M) ((65 : Nat) : Int) M.k (goodsF M) (65 + 1)).map fun st => ⟨M.k, st.2, st.1.map revG⟩ := rfl
  rw [hres]
  clear hres
  have hmost := fun a st => rIter_most (revN M) 65 (by omega) M.k (goodsF M) a st
  have hInv := rIter_inv (revN M) (65 : Nat) (fun x => x < 2 ^ M.next.length) M.k (fun x i hx hi => revN_lt M x i) (goodsF M) hst
  have hmk := mk_ok (revN M) 65 M.k hk1 hk4 (by omega) (by omega) (goodsF M)
  obtain ⟨F, F1, F2, F3, F4, F5⟩ := rIter_all (revN M) (65 : Nat) M.k (goodsF M) 65 hmost
  simp only [Dfa.av] at c0 co cl ca cg ⊢
  simp
  intro b1 hb1
  simp
  intro b2 hb2
  simp at hb2
  simp [hb2]
  refine c0.use ?_
  simp [hb2]
  refine co.use ?_
  simp
  refine cl.use ?_
  simp
  intro b5 hb5
  simp at hb5
  simp [hb2, hb5]
  refine ca.use ?_
  simp [hb2, hb5]
  obtain ⟨HB, hHB⟩ : ∃ HB, HB = AHeap.empty.upd b2 (.cells [.int .i64 0, .nilsl, .nilsl]) := ⟨_, rfl⟩
  have hB2 : ∀ off, cellsAt HB b2 off = some (([.int .i64 0, .nilsl, .nilsl] : List AV).drop off) := by intro off; rw [hHB]; simp
  refine AWP_to (h' := HB) 4 ?_ (TurnF.put (TurnF.refl _ _ _ _) 1 (v := .fptr M.cells) ?_) ?_
  · rw [hHB]
    exact Drop.new (Drop.both (Drop.new (Drop.refl _) hb1)) (by simp [hb5])
  · rw [hHB]; simp [hb2, hb5, Dfa.cells]
  have c1 := w_reachedU (goodsF M) M.k hk4 hk1 (65 : Nat) (.fn (.func 93) [] [.fptr M.cells]) (revN M) (fun x => x < 2 ^ M.next.length) hst (fun x i hx hi => revN_lt M x i) HB
    (fun x i hx hi => w_Reverse1 M hM x hx i hi HB) F (by omega) F2 F3 F4
  rw [F5] at c1
  generalize hR : rIter (revN M) ((65 : Nat) : Int) M.k (goodsF M) (65 + 1) = R at c1
  refine awp_draw_text (by kernel_rfl) [24, 25, 27] [(.fn (.func 92) [] [], [.agg [.int .i64 M.k, nrowsA M.next, boolsA M.good]], .int .u64 (goodsF M : Nat))] (by kernel_rfl) (by kernel_rfl) (by simp; exact PureV.of cg) ?_
  simp [Dfa.cells]
  refine c1.use ?_
  have hz : ∀ (a b c d : AV), splice [a, b] 0 [c, d] = [c, d] := fun _ _ _ _ => rfl
  cases R with
  | none =>
    simp [rchA, Dfa.cells]
    intro b8 hb8
    have n2 := ne_fresh (hB2 0) hb8
    simp [n2]
    have ck := w_keptF (.agg [.int .i64 M.k, .nilsl, .nilsl]) rfl
    refine awp_loop_g (γ := Unit) (fun g t h => t 2 = .ptr b2 0 ∧ t 8 = .bool false ∧ t 9 = .ptr b8 0 ∧ t 38 = .int .i64 0 ∧ t 39 = .int .i64 0 ∧ h = HB.upd b8 (.cells [.int .i64 M.k, .nilsl, .nilsl])) (fun g => 0) (()) (turnA_self (by simp)) ?_
    rintro g t h ⟨h2, h8, h9, h38, h39, rfl⟩
    simp [h2, h8, h9, h38, h39, n2]
    refine ck.use ?_
    simp [h2, h8, h9, h38, h39, n2, hB2, noAuto]
    exact finA_drop rfl
  | some st =>
    obtain ⟨keys, rows⟩ := st
    have hok := hmk _ hR
    obtain ⟨gd, hgd⟩ : ∃ gd : Nat → Bool, gd = revG := ⟨_, rfl⟩
    have hwf := hok.wf gd
    have ck := w_keptT _ hwf
    have hinv := (hInv _ _ hR).2
    have hle := hok.le
    have hn := hok.len
    have hl1 : 1 ≤ keys.length := by have := hwf.n1; simp only at this hn; omega
    simp only at hwf ck hinv hle hn
    simp only [Dfa.av] at ck
    obtain ⟨L, hL⟩ : ∃ L, L = keys.length := ⟨_, rfl⟩
    simp [rchA, setsA, Dfa.cells, ← hL]
    intro b8 hb8
    have n2 := ne_fresh (hB2 0) hb8
    simp [n2]
    refine awp_loop_g (γ := Nat × Option Nat) (fun q t h => (q.1 ≤ L) ∧ ((q.2 = none → q.1 = 0) ∧ ∀ b, q.2 = some b → Fresh HB b ∧ ¬ b = b8 ∧ ¬ b8 = b) ∧ t 2 = .ptr b2 0 ∧ t 8 = .bool true ∧ t 9 = .ptr b8 0 ∧ t 37 = .sl L (keys.map uE) ∧ t 38 = .int .i64 L ∧ t 39 = .int .i64 q.1 ∧ h = (HB.upd b8 (.cells [.int .i64 M.k, nrowsA rows, ownV q.2 q.1 1])).updO q.2 (((keys.take q.1).map gd).map .bool)) (fun q => L - q.1) ((0, none)) (turnA_self (by simp [n2, Dfa.cells])) ?_
    rintro q t h ⟨hi, ho, h2, h8, h9, h37, h38, h39, rfl⟩
    obtain ⟨i, o⟩ := q
    simp only at h2 h8 h9 h37 h38 h39 hi ho
    by_cases hlt : i < L
    · have hik : i < keys.length := by omega
      obtain ⟨x, hxe⟩ : ∃ x, keys[i]? = some x := ⟨keys[i], by simp [hik]⟩
      have hxk : keys[i] = x := by rw [List.getElem?_eq_getElem hik] at hxe; exact Option.some.inj hxe
      have hxI := hinv x (List.mem_of_getElem? hxe)
      have hx64 := n_lt64 hM hxI
      have ch := w_has x hx64 0 (by omega)
      have htake : keys.take (i + 1) = keys.take i ++ [x] := by rw [← hxk, List.take_append_getElem]
      have hw : IntKind.i64.wrap ((i : Int) + 1) = (i : Int) + 1 := wrap_i64 (by omega) (by omega)
      have hval : gd x = x.testBit 0 := by rw [hgd]; rfl
      simp [h2, h8, h9, h37, h38, h39, hlt, hik, hxk]
      rcases o with _ | b
      · obtain rfl : i = 0 := ho.1 rfl
        simp
        refine awp_draw_text (by kernel_rfl) [46] [(.fn (.func 94) [] [], [.int .u64 (x : Int), .int .i64 0], .bool (x.testBit 0))] (by kernel_rfl) (by kernel_rfl) (by simp; simpa using PureV.of ch) ?_
        simp only [Nat.zero_add] at htake
        simp [h2, h8, h9, h37, h38, h39, n2]
        intro b13 hb13
        simp at hb13
        simp [h2, h8, h9, h37, h38, h39, hb13]
        intro b14 hb14
        simp at hb14
        simp [h2, h8, h9, h37, h38, h39, hb13, hb14, hw]
        refine turnA_to ((HB.upd b8 (.cells [.int .i64 M.k, nrowsA rows, .osl b14 0 1 1])).upd b14 (.cells (((keys.take 1).map gd).map .bool))) ?_ ⟨1, by omega, by omega, some b14, by simp [h2, h8, h9, h37, h38, h39, hb14]⟩
        rw [htake]
        simp [hval, hval]
        refine Drop.both (Drop.new (Drop.refl _) ?_); simp [hb13]
      · have ho1 := ho.2 b rfl
        have p2 := ne_fresh (hB2 0) ho1.1
        simp [ho1]
        have hlen : min i keys.length = i := by omega
        refine awp_draw_text (by kernel_rfl) [46] [(.fn (.func 94) [] [], [.int .u64 (x : Int), .int .i64 0], .bool (x.testBit 0))] (by kernel_rfl) (by kernel_rfl) (by simp; simpa using PureV.of ch) ?_
        simp [h2, h8, h9, h37, h38, h39, n2, p2, ho1]
        intro b13 hb13
        simp at hb13
        simp [h2, h8, h9, h37, h38, h39, hb13, ho1, hlen]
        refine ⟨by omega, ?_⟩
        intro b14 hb14
        simp at hb14
        simp [h2, h8, h9, h37, h38, h39, hb13, hb14, hw, ho1]
        refine turnA_to ((HB.upd b8 (.cells [.int .i64 M.k, nrowsA rows, .osl b14 0 (i + 1) 1])).upd b14 (.cells (((keys.take (i + 1)).map gd).map .bool))) ?_ ⟨i + 1, by omega, by omega, some b14, by simp [h2, h8, h9, h37, h38, h39, hb14]⟩
        rw [htake]
        simp [hval, hval]
        refine Drop.both (Drop.new (Drop.refl _) ?_); simp [hb13]
    · obtain rfl : i = L := by omega
      rcases o with _ | b
      · have := ho.1 rfl; omega
      have ho1 := ho.2 b rfl
      have p2 := ne_fresh (hB2 0) ho1.1
      simp [h2, h8, h9, h37, h38, h39, n2, ho1, p2]
      refine ACalls.turn 2 HB (Drop.sub (Drop.new (Drop.new (Drop.refl _) hb8) ho1.1) 2) ?_
      have hfr : ([.agg [.int .i64 M.k, nrowsA rows, .osl b 0 i 1], .bool true] : List AV).map (frzF 2 ((HB.upd b8 (.cells [.int .i64 M.k, nrowsA rows, .osl b 0 i 1])).upd b (.cells (List.take i (List.map (AV.bool ∘ gd) keys)))) HB) = [.agg [.int .i64 M.k, nrowsA rows, boolsA (keys.map gd)], .bool true] := by
        have hf0 : ∀ h h' a, frzF 0 h h' a = a := fun _ _ _ => rfl
        simp [frz_osl ho1.1, hf0, boolsA, nrowsA, ← hL, List.take_of_length_le]
      rw [hfr]
      refine ck.use ?_
      simp only [keptO, keptA, Option.map_some]
      rw [← hgd]
      split
      · simp [h2, h8, h9, h37, h38, h39, hB2, noAuto]
        exact finA_drop rfl
      · simp [h2, h8, h9, h37, h38, h39, hB2, Dfa.av]
        exact finA_drop rfl
end Go.Proofs

end
