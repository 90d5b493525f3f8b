/-
  Periods: how often a map leads from a state back to it. Plain laws; walks of period and Free.
-/
import Derived.Test.YtobhipohnjmnhaaWdAcc2
set_option linter.unusedSimpArgs false
set_option linter.unusedVariables false
set_option linter.unusedSectionVars false
namespace Go.Proofs
open Go Go.AH
set_option maxRecDepth 10000
set_option maxHeartbeats 4000000

def itf (f : Nat → Nat) : Nat → Nat → Nat
  | 0, s => s
  | n + 1, s => f (itf f n s)
theorem itf_add (f : Nat → Nat) : ∀ a b s, itf f (a + b) s = itf f a (itf f b s)
  | 0, b, s => by simp [itf]
  | a + 1, b, s => by rw [show a + 1 + b = (a + b) + 1 from by omega]; simp only [itf]; rw [itf_add f a b s]
theorem itf_lt {f : Nat → Nat} {n : Nat} (hf : ∀ x, x < n → f x < n) {s : Nat} (hs : s < n) : ∀ j, itf f j s < n
  | 0 => hs
  | j + 1 => hf _ (itf_lt hf hs j)
def perF (f : Nat → Nat) (n s : Nat) : Nat := match (List.range n).find? (fun j => itf f (j + 1) s == s) with
  | some j => j + 1
  | none => 0
theorem perF_hit {f : Nat → Nat} {n s j : Nat} (hj : j < n) (e : itf f (j + 1) s = s) (hb : ∀ i, i < j → itf f (i + 1) s ≠ s) : perF f n s = j + 1 := by
  have : (List.range n).find? (fun j => itf f (j + 1) s == s) = some j := by
    rw [List.find?_range_eq_some]
    exact ⟨by simp [e], by simpa using hj, fun i hi => by simpa using hb i hi⟩
  simp only [perF, this]
theorem perF_no {f : Nat → Nat} {n s : Nat} (h : ∀ j, j < n → itf f (j + 1) s ≠ s) : perF f n s = 0 := by
  have : (List.range n).find? (fun j => itf f (j + 1) s == s) = none := by
    rw [List.find?_eq_none]
    intro j hj
    simpa using h j (by simpa using hj)
  simp only [perF, this]
theorem perF_spec (f : Nat → Nat) (n s : Nat) : (perF f n s = 0 ∧ ∀ j, j < n → itf f (j + 1) s ≠ s) ∨ ∃ j, j < n ∧ perF f n s = j + 1 ∧ itf f (j + 1) s = s ∧ ∀ i, i < j → itf f (i + 1) s ≠ s := by
  by_cases h : ∃ j, j < n ∧ itf f (j + 1) s = s
  · right
    have key : ∀ m, (∃ j, j < m ∧ itf f (j + 1) s = s) → ∃ j, j < m ∧ itf f (j + 1) s = s ∧ ∀ i, i < j → itf f (i + 1) s ≠ s := by
      intro m
      induction m with
      | zero => rintro ⟨j, hj, _⟩; omega
      | succ m ih =>
        rintro ⟨j, hj, e⟩
        by_cases h2 : ∃ j, j < m ∧ itf f (j + 1) s = s
        · obtain ⟨i, h3, h4⟩ := ih h2
          exact ⟨i, by omega, h4⟩
        · refine ⟨j, hj, e, fun i hi e2 => h2 ⟨i, by omega, e2⟩⟩
    obtain ⟨j, hj, e, hb⟩ := key n h
    exact ⟨j, hj, perF_hit hj e hb, e, hb⟩
  · left
    have h2 : ∀ j, j < n → itf f (j + 1) s ≠ s := fun j hj e => h ⟨j, hj, e⟩
    exact ⟨perF_no h2, h2⟩
theorem perF_le (f : Nat → Nat) (n s : Nat) : perF f n s ≤ n := by
  rcases perF_spec f n s with h | ⟨j, h1, h2, _⟩ <;> omega
/-- Maps that agree on what is below n. -/
theorem itf_congr {f g : Nat → Nat} {n : Nat} (hf : ∀ x, x < n → f x < n) (e : ∀ x, x < n → f x = g x) {s : Nat} (hs : s < n) : ∀ j, itf f j s = itf g j s
  | 0 => rfl
  | j + 1 => by
    simp only [itf]
    rw [← itf_congr hf e hs j]
    exact e _ (itf_lt hf hs j)
theorem perF_congr {f g : Nat → Nat} {n : Nat} (hf : ∀ x, x < n → f x < n) (e : ∀ x, x < n → f x = g x) {s : Nat} (hs : s < n) : perF f n s = perF g n s := by
  unfold perF
  have : (fun j => itf f (j + 1) s == s) = fun j => itf g (j + 1) s == s := by
    funext j; rw [itf_congr hf e hs]
  rw [this]

/-- A map, as a string of bytes. -/
def actS (k : List UInt8) (x : Nat) : Nat := (k.getD x 0).toNat
theorem w_period (k : List UInt8) (hk : ∀ b ∈ k, b.toNat < k.length) (hl : k.length ≤ 1000000) (s : Nat) (hs : s < k.length) : Pure Try.prog 86 [.str k, .int .i64 s] (.int .i64 (perF (actS k) k.length s : Nat)) := by
  refine pure_of (acalls_of Try.func86 rfl Try.call86 (by kernel_rfl) (by show _ ≤ (22 : Nat); simp) ?_)
  have hf : ∀ x, x < k.length → actS k x < k.length := fun x hx => by
    have : actS k x = k[x].toNat := by simp [actS, hx]
    rw [this]; exact hk _ (List.getElem_mem hx)
  simp
  refine awp_loop_g (γ := Nat) (fun j t h => (j ≤ k.length) ∧ (∀ i, i < j → itf (actS k) (i + 1) s ≠ s) ∧ t 0 = .str k ∧ t 1 = .int .i64 s ∧ t 5 = .int .i64 (itf (actS k) j s : Nat) ∧ t 6 = .int .i64 (j + 1 : Nat)) (fun j => k.length - j) (0) (turnA_self (by simp [itf])) ?_
  rintro j t h ⟨hj, hb, h0, h1, h5, h6⟩
  by_cases hlt : j < k.length
  · have hle : (j : Int) + 1 ≤ (k.length : Int) := by omega
    have hw : IntKind.i64.wrap ((j : Int) + 1 + 1) = (j : Int) + 1 + 1 := wrap_i64 (by omega) (by omega)
    have hit := itf_lt hf hs j
    have hv : actS k (itf (actS k) j s) = k[itf (actS k) j s].toNat := by simp [actS, hit]
    have hv2 : itf (actS k) (j + 1) s = k[itf (actS k) j s].toNat := hv
    have hwc : IntKind.i64.wrap (k[itf (actS k) j s].toNat : Int) = (k[itf (actS k) j s].toNat : Int) := wrap_i64 (by omega) (by have := k[itf (actS k) j s].toNat_lt; omega)
    by_cases e : itf (actS k) (j + 1) s = s
    · have e2 : (k[itf (actS k) j s].toNat : Int) = (s : Int) := by rw [← hv2, e]
      have hwS : IntKind.i64.wrap (s : Int) = s := wrap_i64 (by omega) (by omega)
      simp [h0, h1, h5, h6, hlt, hle, hit, hwc, e2, hwS]
      refine finA_drop ?_
      rw [perF_hit hlt e hb]; rfl
    · have e2 : ¬ (k[itf (actS k) j s].toNat : Int) = (s : Int) := by rw [← hv2]; omega
      simp [h0, h1, h5, h6, hlt, hle, hit, hwc, e2, hw]
      refine turnA_self ⟨j + 1, by omega, by omega, fun i hi => ?_, by simp [h0, h1, h5, h6, hv2]⟩
      by_cases h : i = j
      · subst h; exact e
      · exact hb i (by omega)
  · obtain rfl : j = k.length := by omega
    have hnle : ¬ (k.length : Int) + 1 ≤ (k.length : Int) := by omega
    simp [h0, h1, h5, h6, hnle]
    refine finA_drop ?_
    rw [perF_no hb]; rfl

/-! ### Free -/
def actR (r : List Nat) (x : Nat) : Nat := r.getD x 0
theorem actR_at {r : List Nat} {x : Nat} (h : x < r.length) : actR r x = r[x] := by simp [actR, h]
def freeR (r : List Nat) : Bool := (List.range r.length).all fun s => actR r (itf (actR r) r.length s) == itf (actR r) r.length s
def freeF (K : List (List Nat)) : Bool := K.all freeR
theorem freeF_no {K : List (List Nat)} {k s : Nat} (hk : k < K.length) (hs : s < K[k].length) (e : actR K[k] (itf (actR K[k]) K[k].length s) ≠ itf (actR K[k]) K[k].length s) : freeF K = false := by
  rw [Bool.eq_false_iff]
  intro h
  have h1 := List.all_eq_true.1 h K[k] (List.getElem_mem hk)
  have h2 := List.all_eq_true.1 h1 s (by simpa using hs)
  exact e (by simpa using h2)
theorem freeF_yes {K : List (List Nat)} (h : ∀ k (hk : k < K.length) s, s < K[k].length → actR K[k] (itf (actR K[k]) K[k].length s) = itf (actR K[k]) K[k].length s) : freeF K = true := by
  refine List.all_eq_true.2 fun r hr => List.all_eq_true.2 fun s hs => ?_
  obtain ⟨k, hk, rfl⟩ := List.mem_iff_getElem.1 hr
  simpa using h k hk s (by simpa using hs)

theorem w_refFree (K : List (List Nat)) (hKl : K.length ≤ 1000000) (hK : ∀ r ∈ K, r.length ≤ 1000000 ∧ ∀ x ∈ r, x < r.length) : Pure Try.prog 46 [nrowsA K] (.bool (freeF K)) := by
  refine pure_of (acalls_of Try.func46 rfl Try.call46 (by kernel_rfl) (by show _ ≤ (41 : Nat); simp) ?_)
  simp [nrowsA]
  refine awp_loop_g (γ := Nat) (fun k t h => (k ≤ K.length) ∧ (∀ i (hi : i < K.length), i < k → ∀ s, s < K[i].length → actR K[i] (itf (actR K[i]) K[i].length s) = itf (actR K[i]) K[i].length s) ∧ t 0 = .sl K.length (K.map natsA) ∧ t 3 = .int .i64 k) (fun k => K.length - k) (0) (turnA_self (by simp)) ?_
  rintro k t h ⟨hk, hb, h0, h3⟩
  by_cases hlt : k < K.length
  · have hwk : IntKind.i64.wrap ((k : Int) + 1) = (k : Int) + 1 := wrap_i64 (by omega) (by omega)
    obtain ⟨hrl, hrx⟩ := hK K[k] (List.getElem_mem hlt)
    simp [h0, h3, hlt]
    obtain ⟨r, hr⟩ : ∃ r, r = K[k] := ⟨_, rfl⟩
    rw [← hr] at hrl hrx
    have hf : ∀ x, x < r.length → actR r x < r.length := fun x hx => by rw [actR_at hx]; exact hrx _ (List.getElem_mem _)
    have hr2 : K[k]'(by omega) = r := hr.symm
    refine awp_loop_g (γ := Nat) (fun s t h => (s ≤ r.length) ∧ (∀ i, i < s → actR r (itf (actR r) r.length i) = itf (actR r) r.length i) ∧ t 0 = .sl K.length (K.map natsA) ∧ t 3 = .int .i64 k ∧ t 4 = natsA r ∧ t 5 = .int .i64 s) (fun s => r.length - s) (0) (turnA_self (by simp [h0, h3, hr2])) ?_
    rintro s t h ⟨hs, hbs, h0, h3, h4, h5⟩
    by_cases hlts : s < r.length
    · have hws : IntKind.i64.wrap ((s : Int) + 1) = (s : Int) + 1 := wrap_i64 (by omega) (by omega)
      simp [h0, h3, h4, h5, hlts, natsA]
      refine awp_loop_g (γ := Nat) (fun n t h => (n ≤ r.length) ∧ t 0 = .sl K.length (K.map natsA) ∧ t 3 = .int .i64 k ∧ t 4 = natsA r ∧ t 5 = .int .i64 s ∧ t 6 = .int .i64 (itf (actR r) n s : Nat) ∧ t 7 = .int .i64 n) (fun n => r.length - n) (0) (turnA_self (by simp [h0, h3, h4, h5, natsA, itf])) ?_
      rintro n t h ⟨hn, h0, h3, h4, h5, h6, h7⟩
      have hit := itf_lt hf hlts n
      have hv : itf (actR r) (n + 1) s = r[itf (actR r) n s] := actR_at hit
      by_cases hltn : n < r.length
      · have hwn : IntKind.i64.wrap ((n : Int) + 1) = (n : Int) + 1 := wrap_i64 (by omega) (by omega)
        simp [h0, h3, h4, h5, h6, h7, hltn, natsA, hit]
        exact turnA_self ⟨n + 1, by omega, by omega, by simp [h0, h3, h4, h5, h6, h7, hwn, hv, natsA]⟩
      · obtain rfl : n = r.length := by omega
        have ha := actR_at hit
        by_cases e : actR r (itf (actR r) r.length s) = itf (actR r) r.length s
        · have e2 : (r[itf (actR r) r.length s] : Int) = (itf (actR r) r.length s : Nat) := by rw [← ha, e]
          simp [h0, h3, h4, h5, h6, h7, natsA, hit, e2]
          refine turnA_self ⟨s + 1, by omega, by omega, fun i hi => ?_, by simp [h0, h3, h4, h5, h6, h7, hws, natsA]⟩
          by_cases h : i = s
          · subst h; exact e
          · exact hbs i (by omega)
        · have e2 : ¬ (r[itf (actR r) r.length s] : Int) = (itf (actR r) r.length s : Nat) := by rw [← ha]; omega
          simp [h0, h3, h4, h5, h6, h7, natsA, hit, e2]
          refine finA_drop ?_
          rw [freeF_no hlt (s := s) (by rw [hr2]; exact hlts) (by rw [hr2]; exact e)]
    · obtain rfl : s = r.length := by omega
      simp [h0, h3, h4, h5, natsA]
      refine turnA_self ⟨k + 1, by omega, by omega, fun i hi hik s hs => ?_, by simp [h0, h3, h4, h5, hwk]⟩
      by_cases h : i = k
      · subst h; rw [hr2] at hs ⊢; exact hbs s hs
      · exact hb i hi (by omega) s hs
  · obtain rfl : k = K.length := by omega
    simp [h0, h3]
    refine finA_drop ?_
    rw [freeF_yes fun k hk s hs => hb k hk hk s hs]
end Go.Proofs
