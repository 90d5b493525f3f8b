/-
  Texts: PbD PbE.
-/
import Derived.Test.YtkdhgablioljnaaP2
import Derived.Test.YtkdhgablioljnaaP4
set_option linter.unusedSimpArgs false
set_option linter.unusedVariables false
set_option linter.unusedSectionVars false
section
/-
  Pair: assignments by prices: what holds between persons, within a search, and along a way back.
-/
namespace Go.Proofs
open Go Go.AH
set_option maxRecDepth 10000
set_option maxHeartbeats 4000000

theorem nodup_map {α β : Type} {f : α → β} : ∀ {l : List α}, l.Nodup → (∀ x ∈ l, ∀ y ∈ l, f x = f y → x = y) → (l.map f).Nodup
  | [], _, _ => List.nodup_nil
  | x :: l, h, hi => by
    rw [List.nodup_cons] at h
    rw [List.map_cons, List.nodup_cons]
    refine ⟨fun q => ?_, nodup_map h.2 fun a ha b hb e => hi a (List.mem_cons_of_mem _ ha) b (List.mem_cons_of_mem _ hb) e⟩
    obtain ⟨y, hy, e⟩ := List.mem_map.1 q
    have := hi y (List.mem_cons_of_mem _ hy) x List.mem_cons_self e
    exact h.1 (this ▸ hy)
/-- Persons below i have posts, at prices that fit. -/
structure SI (n : Nat) (c : Nat → Nat → Int) (i : Nat) (u v own : Nat → Int) : Prop where
  ow : ∀ j, j < n → own j = -1 ∨ ∃ r : Nat, r < i ∧ own j = r
  inj : ∀ j k, j < n → k < n → own j = own k → own j ≠ -1 → j = k
  all : ∀ r : Nat, r < i → ∃ j, j < n ∧ own j = r
  tight : ∀ j (r : Nat), j < n → own j = r → u r + v j = c r j
  feas : ∀ r j, r < i → j < n → c r j ≤ u r + v j
  v0 : ∀ j, j < n → 0 ≤ v j
  fr : ∀ j, j < n → own j = -1 → v j = 0
/-- Over which post a post was reached. -/
def byOk (c : Nat → Nat → Int) (i : Nat) (u v own by' : Nat → Int) (pre : List Nat) (j : Nat) : Prop :=
  (by' j = -1 ∧ u i + v j = c i j) ∨ ∃ (b r : Nat), b ∈ pre ∧ by' j = b ∧ own b = r ∧ u r + v j = c r j
/-- Who has the post over which; the person itself. -/
structure Vis (own : Nat → Int) (i : Nat) (T : List Nat) (r : Nat) : Prop where
  is : r = i ∨ ∃ b ∈ T, own b = r
structure RI (n : Nat) (c : Nat → Nat → Int) (i : Nat) (u v own : Nat → Int) (T : List Nat) (by' : Nat → Int) : Prop where
  si : SI n c i u v own
  feasI : ∀ j, j < n → c i j ≤ u i + v j
  nd : T.Nodup
  tn : ∀ j ∈ T, j < n ∧ own j ≠ -1
  ch : ∀ T1 b T2, T = T1 ++ b :: T2 → byOk c i u v own by' T1 b
/-- What lacks, over the persons of a list of posts (and i itself if the flag is set). -/
structure LK (n : Nat) (c : Nat → Nat → Int) (i : Nat) (u v own : Nat → Int) (T T0 : List Nat) (z : Bool) (lack by' : Nat → Int) : Prop where
  no : z = false → ∀ j, j < n → j ∉ T → lack j = 1152921504606846976
  mi : z = true → ∀ j r, j < n → j ∉ T → Vis own i T0 r → lack j ≤ u r + v j - c r j
  ex : z = true → ∀ j, j < n → j ∉ T → (by' j = -1 ∧ lack j = u i + v j - c i j) ∨ ∃ (b r : Nat), b ∈ T0 ∧ by' j = b ∧ own b = r ∧ lack j = u r + v j - c r j
section
variable {n : Nat} {c : Nat → Nat → Int} {i : Nat} {u v own : Nat → Int} {T : List Nat} {by' lack : Nat → Int}
theorem RI.row (R : RI n c i u v own T by') {b : Nat} (hb : b ∈ T) : ∃ r : Nat, r < i ∧ own b = r := by
  obtain ⟨h1, h2⟩ := R.tn b hb
  rcases R.si.ow b h1 with h | h
  · exact absurd h h2
  · exact h
/-- There is a post that is not seen. -/
theorem RI.unseen (R : RI n c i u v own T by') (hi : i < n) : ∃ j, j < n ∧ j ∉ T := by
  have hl : T.length ≤ i := by
    have h1 := nodup_sub_len (T.map own) ((List.range i).map fun r : Nat => (r : Int)) (by
      refine nodup_map R.nd (fun x hx y hy e => ?_)
      exact R.si.inj x y (R.tn x hx).1 (R.tn y hy).1 e (R.tn x hx).2) (fun x hx => by
      obtain ⟨b, hb, rfl⟩ := List.mem_map.1 hx
      obtain ⟨r, h1, h2⟩ := R.row hb
      rw [h2]; exact List.mem_map.2 ⟨r, List.mem_range.2 h1, rfl⟩)
    simpa using h1
  refine Classical.byContradiction fun hn => ?_
  have : ∀ j, j < n → j ∈ T := fun j hj => Classical.byContradiction fun q => hn ⟨j, hj, q⟩
  have := nodup_sub_len (List.range n) T List.nodup_range (fun x hx => this x (List.mem_range.1 hx))
  simp at this
  omega
/-- Numbers stay small. -/
theorem SI.free (S : SI n c i u v own) (hi : i < n) : ∃ j, j < n ∧ own j = -1 := by
  refine Classical.byContradiction fun hn => ?_
  have h1 : ∀ j, j < n → own j ≠ -1 := fun j hj q => hn ⟨j, hj, q⟩
  have := nodup_sub_len ((List.range n).map own) ((List.range i).map fun r : Nat => (r : Int)) (by
    refine nodup_map List.nodup_range (fun x hx y hy e => ?_)
    exact S.inj x y (List.mem_range.1 hx) (List.mem_range.1 hy) e (h1 x (List.mem_range.1 hx))) (fun x hx => by
    obtain ⟨b, hb, rfl⟩ := List.mem_map.1 hx
    rcases S.ow b (List.mem_range.1 hb) with h | ⟨r, h3, h2⟩
    · exact absurd h (h1 b (List.mem_range.1 hb))
    · rw [h2]; exact List.mem_map.2 ⟨r, List.mem_range.2 h3, rfl⟩)
  simp at this
  omega
/-- One person's offers are looked at. -/
theorem LK.scan {T0 : List Nat} {z : Bool} {p : Nat} {last : Int} (L : LK n c i u v own T T0 z lack by') (hp : (z = false ∧ T = [] ∧ T0 = [] ∧ p = i ∧ last = -1) ∨ (z = true ∧ ∃ l : Nat, T = T0 ++ [l] ∧ last = l ∧ own l = p))
    (hsm : ∀ j, j < n → u p + v j - c p j < 1152921504606846976) {lack2 by2 : Nat → Int}
    (h2 : ∀ j, j < n → j ∉ T → if u p + v j - c p j < lack j then lack2 j = u p + v j - c p j ∧ by2 j = last else lack2 j = lack j ∧ by2 j = by' j) : LK n c i u v own T T true lack2 by2 := by
  rcases hp with ⟨rfl, rfl, rfl, rfl, rfl⟩ | ⟨rfl, l, rfl, rfl, hl⟩
  · have hd : ∀ j, j < n → lack2 j = u p + v j - c p j ∧ by2 j = -1 := fun j hj => by
      have := h2 j hj (by simp)
      rw [L.no rfl j hj (by simp), if_pos (hsm j hj)] at this
      exact this
    refine ⟨fun h => (by cases h), fun _ j r hj _ hv => ?_, fun _ j hj _ => .inl ⟨(hd j hj).2, (hd j hj).1⟩⟩
    rcases hv.is with rfl | ⟨b, hb, _⟩
    · exact Int.le_of_eq (hd j hj).1
    · cases hb
  · refine ⟨fun h => (by cases h), fun _ j r hj hjT hv => ?_, fun _ j hj hjT => ?_⟩
    · have h := h2 j hj hjT
      have old : Vis own i T0 r → lack j ≤ u r + v j - c r j := L.mi rfl j r hj hjT
      have lle : lack2 j ≤ lack j ∧ lack2 j ≤ u p + v j - c p j := by
        split at h
        · next q => rw [h.1]; omega
        · next q => rw [h.1]; omega
      rcases hv.is with hr | ⟨b, hb, hbr⟩
      · exact Int.le_trans lle.1 (old ⟨.inl hr⟩)
      · rcases List.mem_append.1 hb with hb | hb
        · exact Int.le_trans lle.1 (old ⟨.inr ⟨b, hb, hbr⟩⟩)
        · simp only [List.mem_singleton] at hb
          subst hb
          have : p = r := by rw [hl] at hbr; omega
          subst this
          exact lle.2
    · have h := h2 j hj hjT
      split at h
      · exact .inr ⟨l, p, by simp, h.2, hl, h.1⟩
      · rcases L.ex rfl j hj hjT with ⟨q1, q2⟩ | ⟨b, r, q0, q1, q2, q3⟩
        · exact .inl ⟨by rw [h.2, q1], by rw [h.1, q2]⟩
        · exact .inr ⟨b, r, by simp [q0], by rw [h.2, q1], q2, by rw [h.1, q3]⟩
/-- Prices change by what lacks least. -/
theorem RI.step (R : RI n c i u v own T by') (L : LK n c i u v own T T true lack by') (hi : i < n) {least : Nat} (hl : least < n) (hlT : least ∉ T) (hmin : ∀ j, j < n → j ∉ T → lack least ≤ lack j) {u2 v2 lack2 : Nat → Int}
    (hu : ∀ r, r < n → (Vis own i T r → u2 r = u r - lack least) ∧ (¬ Vis own i T r → u2 r = u r)) (hv : ∀ j, j < n → (j ∈ T → v2 j = v j + lack least) ∧ (j ∉ T → v2 j = v j)) (hk : ∀ j, j < n → j ∉ T → lack2 j = lack j - lack least) :
    RI n c i u2 v2 own T by' ∧ LK n c i u2 v2 own T T true lack2 by' ∧ byOk c i u2 v2 own by' T least := by
  have S := R.si
  have hd : 0 ≤ lack least := by
    rcases L.ex rfl least hl hlT with ⟨_, q⟩ | ⟨b, r, q0, q1, q2, q3⟩
    · have := R.feasI least hl; omega
    · obtain ⟨r', h1, h2⟩ := R.row q0
      have : r = r' := by rw [q2] at h2; omega
      subst this
      have := S.feas r least h1 hl; omega
  have hVi : Vis own i T i := ⟨.inl rfl⟩
  have ui : u2 i = u i - lack least := (hu i hi).1 hVi
  have ub : ∀ b ∈ T, ∀ r : Nat, own b = r → u2 r = u r - lack least ∧ r < n ∧ r < i := fun b hb r hr => by
    obtain ⟨r', h1, h2⟩ := R.row hb
    have : r = r' := by rw [hr] at h2; omega
    subst this
    exact ⟨(hu r (by omega)).1 ⟨.inr ⟨b, hb, hr⟩⟩, by omega, h1⟩
  have hvis : ∀ r, r < i → Vis own i T r → ∃ b ∈ T, own b = r := fun r hr h => by
    rcases h.is with rfl | h
    · omega
    · exact h
  have by2 : ∀ pre b, (∀ x ∈ pre, x ∈ T) → b ∈ T → byOk c i u v own by' pre b → byOk c i u2 v2 own by' pre b := fun pre b hpre hb h => by
    have hbn := (R.tn b hb).1
    have hvb := (hv b hbn).1 hb
    rcases h with ⟨q1, q2⟩ | ⟨x, r, q0, q1, q2, q3⟩
    · exact .inl ⟨q1, by omega⟩
    · have := (ub x (hpre x q0) r q2).1
      exact .inr ⟨x, r, q0, q1, q2, by omega⟩
  refine ⟨⟨⟨S.ow, S.inj, S.all, fun j r hj hr => ?_, fun r j hr hj => ?_, fun j hj => ?_, fun j hj hf => ?_⟩, fun j hj => ?_, R.nd, R.tn, fun T1 b T2 e => ?_⟩, ⟨fun h => (by cases h), fun _ j r hj hjT hV => ?_, fun _ j hj hjT => ?_⟩, ?_⟩
  · have ht := S.tight j r hj hr
    have hri : r < i := by
      rcases S.ow j hj with h | ⟨r', h1, h2⟩
      · rw [hr] at h; omega
      · rw [hr] at h2; omega
    by_cases hjT : j ∈ T
    · have := (ub j hjT r hr).1
      have := (hv j hj).1 hjT
      omega
    · have hnv : ¬ Vis own i T r := fun h => by
        obtain ⟨b, hb, hbr⟩ := hvis r hri h
        have := S.inj j b hj (R.tn b hb).1 (by rw [hr, hbr]) (by rw [hr]; omega)
        exact hjT (this ▸ hb)
      have := (hu r (by omega)).2 hnv
      have := (hv j hj).2 hjT
      omega
  · have hf := S.feas r j hr hj
    by_cases hV : Vis own i T r
    · have h1 := (hu r (by omega)).1 hV
      by_cases hjT : j ∈ T
      · have := (hv j hj).1 hjT; omega
      · have h2 := (hv j hj).2 hjT
        have h3 := L.mi rfl j r hj hjT hV
        have h4 := hmin j hj hjT
        omega
    · have h1 := (hu r (by omega)).2 hV
      by_cases hjT : j ∈ T
      · have := (hv j hj).1 hjT; omega
      · have := (hv j hj).2 hjT; omega
  · have h0 := S.v0 j hj
    by_cases hjT : j ∈ T
    · have := (hv j hj).1 hjT; omega
    · have := (hv j hj).2 hjT; omega
  · have hjT : j ∉ T := fun q => (R.tn j q).2 hf
    have := (hv j hj).2 hjT
    have := S.fr j hj hf
    omega
  · have hf := R.feasI j hj
    by_cases hjT : j ∈ T
    · have := (hv j hj).1 hjT; omega
    · have h2 := (hv j hj).2 hjT
      have h3 := L.mi rfl j i hj hjT hVi
      have h4 := hmin j hj hjT
      omega
  · exact by2 T1 b (fun x hx => by rw [e]; simp [hx]) (by rw [e]; simp) (R.ch T1 b T2 e)
  · have h1 : u2 r = u r - lack least := by
      rcases hV.is with rfl | ⟨b, hb, hbr⟩
      · exact ui
      · exact (ub b hb r hbr).1
    have h2 := (hv j hj).2 hjT
    have h3 := L.mi rfl j r hj hjT hV
    have h4 := hk j hj hjT
    omega
  · have h2 := (hv j hj).2 hjT
    have h4 := hk j hj hjT
    rcases L.ex rfl j hj hjT with ⟨q1, q2⟩ | ⟨b, r, q0, q1, q2, q3⟩
    · exact .inl ⟨q1, by omega⟩
    · have := (ub b q0 r q2).1
      exact .inr ⟨b, r, q0, q1, q2, by omega⟩
  · have h2 := (hv least hl).2 hlT
    rcases L.ex rfl least hl hlT with ⟨q1, q2⟩ | ⟨b, r, q0, q1, q2, q3⟩
    · exact .inl ⟨q1, by omega⟩
    · have := (ub b q0 r q2).1
      exact .inr ⟨b, r, q0, q1, q2, by omega⟩
theorem LK.push {T0 : List Nat} {z : Bool} (L : LK n c i u v own T T0 z lack by') (l : Nat) : LK n c i u v own (T ++ [l]) T0 z lack by' :=
  ⟨fun h j hj q => L.no h j hj (fun p => q (by simp [p])), fun h j r hj q => L.mi h j r hj (fun p => q (by simp [p])), fun h j hj q => L.ex h j hj (fun p => q (by simp [p]))⟩
theorem RI.push (R : RI n c i u v own T by') {l : Nat} (hl : l < n) (hlT : l ∉ T) (ho : own l ≠ -1) (hb : byOk c i u v own by' T l) : RI n c i u v own (T ++ [l]) by' := by
  refine ⟨R.si, R.feasI, ?_, fun j hj => ?_, fun T1 b T2 e => ?_⟩
  · rw [List.nodup_append]
    refine ⟨R.nd, by simp, fun x hx y hy => ?_⟩
    simp only [List.mem_singleton] at hy
    subst hy
    intro q; subst q; exact hlT hx
  · rcases List.mem_append.1 hj with q | q
    · exact R.tn j q
    · simp only [List.mem_singleton] at q; subst q; exact ⟨hl, ho⟩
  · rcases List.append_eq_append_iff.1 e with ⟨A, h1, h2⟩ | ⟨A, h1, h2⟩
    · cases A with
      | nil =>
        simp only [List.append_nil, List.nil_append, List.cons.injEq] at h1 h2
        rw [h1, ← h2.1]; exact hb
      | cons x A =>
        simp only [List.cons_append, List.cons.injEq] at h2
        obtain ⟨_, h2⟩ := h2
        have := congrArg List.length h2
        simp at this
    · cases A with
      | nil =>
        simp only [List.append_nil, List.nil_append, List.cons.injEq] at h1 h2
        rw [← h1, h2.1]; exact hb
      | cons x A =>
        simp only [List.cons_append, List.cons.injEq] at h2
        obtain ⟨rfl, h2⟩ := h2
        exact R.ch T1 b A h1
/-- A way back: post j waits for a person, all others hold. -/
structure AG (n : Nat) (c : Nat → Nat → Int) (i : Nat) (u v own : Nat → Int) (T : List Nat) (by' : Nat → Int) (pre : List Nat) (j : Nat) (g : Nat → Int) : Prop where
  ow : ∀ x, x < n → x ≠ j → g x = -1 ∨ ∃ r : Nat, r < i ∧ g x = r
  inj : ∀ x y, x < n → y < n → x ≠ j → y ≠ j → g x = g y → g x ≠ -1 → x = y
  all : ∀ r : Nat, r < i → ∃ x, x < n ∧ x ≠ j ∧ g x = r
  tight : ∀ x (r : Nat), x < n → x ≠ j → g x = r → u r + v x = c r x
  fr : ∀ x, x < n → x ≠ j → g x = -1 → v x = 0
  pr : ∀ x ∈ pre, g x = own x ∧ x ≠ j
  jn : j < n
  by' : byOk c i u v own by' pre j
  pfx : ∃ rest, T = pre ++ rest
theorem AG.start (R : RI n c i u v own T by') {l : Nat} (hl : l < n) (ho : own l = -1) (hb : byOk c i u v own by' T l) : AG n c i u v own T by' T l own :=
  ⟨fun x hx _ => R.si.ow x hx, fun x y hx hy _ _ => R.si.inj x y hx hy, fun r hr => by
    obtain ⟨x, h1, h2⟩ := R.si.all r hr
    exact ⟨x, h1, fun e => by rw [e, ho] at h2; omega, h2⟩, fun x r hx _ => R.si.tight x r hx, fun x hx _ => R.si.fr x hx, fun x hx => ⟨rfl, fun e => (R.tn x hx).2 (e ▸ ho)⟩, hl, hb, ⟨[], by simp⟩⟩
theorem AG.turn (R : RI n c i u v own T by') {pre : List Nat} {j : Nat} {g : Nat → Int} (A : AG n c i u v own T by' pre j g) {b : Nat} (hb : by' j = b) :
    ∃ P1, P1.length < pre.length ∧ AG n c i u v own T by' P1 b (upf g j (g b)) ∧ b < n ∧ (∃ r : Nat, r < i ∧ g b = r) := by
  rcases A.by' with ⟨q, _⟩ | ⟨b', r, q0, q1, q2, q3⟩
  · rw [hb] at q; omega
  have : b = b' := by rw [hb] at q1; omega
  subst this
  obtain ⟨P1, P2, hP⟩ := List.append_of_mem q0
  obtain ⟨rest, hT⟩ := A.pfx
  have hT2 : T = P1 ++ b :: (P2 ++ rest) := by rw [hT, hP]; simp
  have hbT : b ∈ T := by rw [hT2]; simp
  have hbn := (R.tn b hbT).1
  obtain ⟨gb, hbj⟩ := A.pr b q0
  rw [q2] at gb
  have hri : r < i := by
    obtain ⟨r', h1, h2⟩ := R.row hbT
    rw [q2] at h2; omega
  have hnd := R.nd
  rw [hT2, List.nodup_append] at hnd
  have ge : ∀ x, x ≠ j → upf g j (g b) x = g x := fun x hx => upf_ne g (g b) hx
  refine ⟨P1, by rw [hP]; simp, ⟨fun x hx hxb => ?_, fun x y hx hy hxb hyb e hn => ?_, fun r' hr' => ?_, fun x r' hx hxb hr' => ?_, fun x hx hxb hf => ?_, fun x hx => ?_, hbn, R.ch P1 b _ hT2, ⟨_, hT2⟩⟩, hbn, r, hri, gb⟩
  · by_cases e : x = j
    · subst e; rw [upf_same, gb]; exact .inr ⟨r, hri, rfl⟩
    · rw [ge x e]; exact A.ow x hx e
  · by_cases ex : x = j
    · subst ex
      by_cases ey : y = x
      · exact ey.symm
      · rw [upf_same, ge y ey] at e
        have := A.inj b y hbn hy hbj ey e (by rw [gb]; omega)
        exact absurd this.symm hyb
    · rw [ge x ex] at e hn
      by_cases ey : y = j
      · subst ey
        rw [upf_same] at e
        have := A.inj x b hx hbn ex hbj e hn
        exact absurd this hxb
      · rw [ge y ey] at e
        exact A.inj x y hx hy ex ey e hn
  · by_cases e : r' = r
    · subst e
      exact ⟨j, A.jn, fun q => hbj q.symm, by rw [upf_same, gb]⟩
    · obtain ⟨x, h1, h2, h3⟩ := A.all r' hr'
      exact ⟨x, h1, fun q => by rw [q, gb] at h3; omega, by rw [ge x h2]; exact h3⟩
  · by_cases ex : x = j
    · subst ex
      rw [upf_same, gb] at hr'
      have : r = r' := by omega
      subst this
      exact q3
    · rw [ge x ex] at hr'
      exact A.tight x r' hx ex hr'
  · by_cases ex : x = j
    · subst ex
      rw [upf_same, gb] at hf; omega
    · rw [ge x ex] at hf
      exact A.fr x hx ex hf
  · have hxp : x ∈ pre := by rw [hP]; simp [hx]
    obtain ⟨h1, h2⟩ := A.pr x hxp
    exact ⟨by rw [ge x h2]; exact h1, hnd.2.2 x hx b (by simp)⟩
theorem AG.done (R : RI n c i u v own T by') {pre : List Nat} {j : Nat} {g : Nat → Int} (A : AG n c i u v own T by' pre j g) (hb : by' j = -1) : SI n c (i + 1) u v (upf g j i) := by
  have ti : u i + v j = c i j := by
    rcases A.by' with ⟨_, q⟩ | ⟨b', r, q0, q1, q2, q3⟩
    · exact q
    · rw [hb] at q1; omega
  have ge : ∀ x, x ≠ j → upf g j (i : Int) x = g x := fun x hx => upf_ne g _ hx
  refine ⟨fun x hx => ?_, fun x y hx hy e hn => ?_, fun r hr => ?_, fun x r hx hr => ?_, fun r x hr hx => ?_, R.si.v0, fun x hx hf => ?_⟩
  · by_cases e : x = j
    · subst e; rw [upf_same]; exact .inr ⟨i, by omega, rfl⟩
    · rw [ge x e]
      rcases A.ow x hx e with h | ⟨r, h1, h2⟩
      · exact .inl h
      · exact .inr ⟨r, by omega, h2⟩
  · by_cases ex : x = j
    · by_cases ey : y = j
      · rw [ex, ey]
      · rw [ex, upf_same, ge y ey] at e
        rcases A.ow y hy ey with h | ⟨r, h1, h2⟩ <;> omega
    · rw [ge x ex] at e hn
      by_cases ey : y = j
      · rw [ey, upf_same] at e
        rcases A.ow x hx ex with h | ⟨r, h1, h2⟩ <;> omega
      · rw [ge y ey] at e
        exact A.inj x y hx hy ex ey e hn
  · by_cases e : r = i
    · subst e; exact ⟨j, A.jn, upf_same _ _ _⟩
    · obtain ⟨x, h1, h2, h3⟩ := A.all r (by omega)
      exact ⟨x, h1, by rw [ge x h2]; exact h3⟩
  · by_cases ex : x = j
    · subst ex
      rw [upf_same] at hr
      have : r = i := by omega
      subst this; exact ti
    · rw [ge x ex] at hr
      exact A.tight x r hx ex hr
  · by_cases e : r = i
    · subst e; exact R.feasI x hx
    · exact R.si.feas r x (by omega) hx
  · by_cases ex : x = j
    · subst ex; rw [upf_same] at hf; omega
    · rw [ge x ex] at hf; exact A.fr x hx ex hf
/-- Bounds. -/
theorem SI.bounds (S : SI n c i u v own) (hi : i < n) (hc : ∀ r j, r < n → j < n → -1000000 ≤ c r j ∧ c r j ≤ 1000000) :
    (∀ j, j < n → 0 ≤ v j ∧ v j ≤ 2000000) ∧ ∀ r, r < i → -1000000 ≤ u r ∧ u r ≤ 1000000 := by
  obtain ⟨f, hf, hf2⟩ := S.free hi
  have h0 := S.fr f hf hf2
  have hlo : ∀ r, r < i → -1000000 ≤ u r := fun r hr => by
    have := S.feas r f hr hf
    have := hc r f (by omega) hf
    omega
  have hhi : ∀ r, r < i → u r ≤ 1000000 := fun r hr => by
    obtain ⟨j, hj, e⟩ := S.all r hr
    have := S.tight j r hj e
    have := S.v0 j hj
    have := hc r j (by omega) hj
    omega
  refine ⟨fun j hj => ⟨S.v0 j hj, ?_⟩, fun r hr => ⟨hlo r hr, hhi r hr⟩⟩
  rcases S.ow j hj with h | ⟨r, h1, h2⟩
  · rw [S.fr j hj h]; omega
  · have := S.tight j r hj h2
    have := hlo r h1
    have := hc r j (by omega) hj
    omega
theorem RI.lowI (R : RI n c i u v own T by') (hi : i < n) (hc : ∀ r j, r < n → j < n → -1000000 ≤ c r j ∧ c r j ≤ 1000000) : -1000000 ≤ u i := by
  obtain ⟨f, hf, hf2⟩ := R.si.free hi
  have h0 := R.si.fr f hf hf2
  have := R.feasI f hf
  have := hc i f hi hf
  omega
end
end Go.Proofs

end

section
/-
  Pair: the best assignment, walked.
-/
namespace Go.Proofs
open Go Go.AH
set_option maxRecDepth 10000
set_option maxHeartbeats 8000000

theorem condA_cut {P : Program} {ro : Option Nat} {N : Nat} {v : AV} {x y : Code} {K : AF → AHeap → Prop} {Q : Exit → AF → AHeap → Prop} {t : AF} {h : AHeap} (I : AF → AHeap → Prop) (hx : condA v (awp P ro N x (thenA I Q) t h) (awp P ro N y (thenA I Q) t h)) (hy : ∀ t h, I t h → K t h) :
    condA v (awp P ro N x (thenA K Q) t h) (awp P ro N y (thenA K Q) t h) := by
  have m : ∀ c t h, awp P ro N c (thenA I Q) t h → awp P ro N c (thenA K Q) t h := fun c t h => awp_mono c _ _ t h fun e t h q => by cases e <;> first | exact q | exact hy _ _ q
  unfold condA at hx ⊢
  split at hx
  · exact ⟨fun b => m _ _ _ (hx.1 b), fun b => m _ _ _ (hx.2 b)⟩
  · exact hx.elim
theorem loop_cut {P : Program} {ro : Option Nat} {N id : Nat} {c : Code} {K : AF → AHeap → Prop} {Q : Exit → AF → AHeap → Prop} {t : AF} {h : AHeap} (I : AF → AHeap → Prop) (hx : awpLoop (awp P ro N c) (blockA id (thenA I Q)) t h) (hy : ∀ t h, I t h → K t h) :
    awpLoop (awp P ro N c) (blockA id (thenA K Q)) t h := by
  refine awp_mono (P := P) (ro := ro) (N := N) (.loop c) (blockA id (thenA I Q)) (blockA id (thenA K Q)) t h (fun e t h q => ?_) hx
  have m : ∀ e t h, thenA I Q e t h → thenA K Q e t h := fun e t h q => by cases e <;> first | exact q | exact hy _ _ q
  cases e with
  | exit i =>
    unfold blockA at q ⊢
    simp only at q ⊢
    split
    · next he => rw [if_pos he] at q; exact m _ _ _ q
    · next he => rw [if_neg he] at q; exact q
  | normal => exact m .normal t h q
  | goto l => exact q
  | ret => exact q
  | panic ch => exact q
  | outgrown => exact q
def cF (C : List (List Int)) (i j : Nat) : Int := ((C[i]?.getD [])[j]?).getD 0
structure OffOk (C : List (List Int)) (n : Nat) : Prop where
  len : C.length = n
  n1 : 1 ≤ n ∧ n ≤ 12
  rows : ∀ r ∈ C, r.length = n
  sm : ∀ r ∈ C, ∀ x ∈ r, -1000000 ≤ x ∧ x ≤ 1000000
theorem OffOk.row {C : List (List Int)} {n i : Nat} (O : OffOk C n) (hi : i < n) : ∃ r, C[i]? = some r ∧ r.length = n ∧ ∀ j, j < n → r[j]? = some (cF C i j) := by
  have h := List.getElem?_eq_getElem (l := C) (i := i) (by rw [O.len]; exact hi)
  refine ⟨_, h, O.rows _ (List.mem_of_getElem? h), fun j hj => ?_⟩
  unfold cF
  rw [h]
  simp only [Option.getD_some]
  have hl := O.rows _ (List.mem_of_getElem? h)
  rw [List.getElem?_eq_getElem (by omega)]
  rfl
theorem OffOk.c {C : List (List Int)} {n : Nat} (O : OffOk C n) : ∀ r j, r < n → j < n → -1000000 ≤ cF C r j ∧ cF C r j ≤ 1000000 := fun r j hr hj => by
  obtain ⟨l, h1, _, h3⟩ := O.row hr
  exact O.sm l (List.mem_of_getElem? h1) _ (List.mem_of_getElem? (h3 j hj))
theorem maxf_spec : ∀ (r : List Int) (x : Int), (r.foldl (fun m y => if m < y then y else m) x = x ∨ r.foldl (fun m y => if m < y then y else m) x ∈ r) ∧ x ≤ r.foldl (fun m y => if m < y then y else m) x ∧ ∀ y ∈ r, y ≤ r.foldl (fun m y => if m < y then y else m) x
  | [], x => by simp
  | y :: r, x => by
    obtain ⟨h1, h2, h3⟩ := maxf_spec r (if x < y then y else x)
    simp only [List.foldl_cons]
    refine ⟨?_, ?_, fun z hz => ?_⟩
    · rcases h1 with h | h
      · by_cases q : x < y
        · rw [if_pos q] at h ⊢; exact .inr (by rw [h]; simp)
        · rw [if_neg q] at h ⊢; exact .inl h
      · exact .inr (by simp [h])
    · by_cases q : x < y
      · rw [if_pos q] at h2 ⊢; omega
      · rw [if_neg q] at h2 ⊢; exact h2
    · rcases List.mem_cons.1 hz with rfl | hz
      · by_cases q : x < z
        · rw [if_pos q] at h2 ⊢; exact h2
        · rw [if_neg q] at h2 ⊢; omega
      · exact h3 z hz
theorem maxB_spec {l : List Int} (h : l ≠ []) : maxB l ∈ l ∧ ∀ x ∈ l, x ≤ maxB l := by
  cases l with
  | nil => exact absurd rfl h
  | cons y r =>
    obtain ⟨h1, h2, h3⟩ := maxf_spec r y
    refine ⟨?_, fun x hx => ?_⟩
    · show r.foldl _ y ∈ _
      rcases h1 with h | h
      · rw [h]; simp
      · simp [h]
    · rcases List.mem_cons.1 hx with rfl | hx
      · exact h2
      · exact h3 x hx
theorem intC_rep {n : Nat} {x : Int} : intC (List.replicate n x) = iarr n fun _ => x := by
  refine List.ext_getElem (by simp) fun i h1 h2 => by simp [intC, iarr]
theorem rep_iarr {n : Nat} {x : Int} : List.replicate n (AV.int .i64 x) = iarr n fun _ => x := by
  refine List.ext_getElem (by simp) fun i h1 h2 => by simp [iarr]
theorem rep_barr {n : Nat} {x : Bool} : List.replicate n (AV.bool x) = barr n fun _ => x := by
  refine List.ext_getElem (by simp) fun i h1 h2 => by simp [barr]
structure BZ where
  i : Nat
  u : Nat → Int
  v : Nat → Int
  own : Nat → Int
structure RZ where
  T : List Nat
  T0 : List Nat
  z : Bool
  u : Nat → Int
  v : Nat → Int
  lack : Nat → Int
  by' : Nat → Int
  p : Nat
  last : Int
structure KZ where
  k : Nat
  lack : Nat → Int
  by' : Nat → Int
  least : Int
def tB (T : List Nat) (j : Nat) : Bool := T.contains j
structure KS (n : Nat) (T : List Nat) (k : Nat) (d lack by' : Nat → Int) (last : Int) (la ba : Nat → Int) : Prop where
  a : ∀ j, j < n → (j < k ∧ j ∉ T → if d j < lack j then la j = d j ∧ ba j = last else la j = lack j ∧ ba j = by' j) ∧ (¬ (j < k ∧ j ∉ T) → la j = lack j ∧ ba j = by' j)
structure KL (T : List Nat) (k : Nat) (la : Nat → Int) (le : Int) : Prop where
  is : (le = -1 ∧ ∀ j, j < k → j ∈ T) ∨ ∃ l : Nat, le = l ∧ l < k ∧ l ∉ T ∧ ∀ j, j < k → j ∉ T → la l ≤ la j
structure Bnd (n : Nat) (u v : Nat → Int) : Prop where
  v : ∀ j, j < n → 0 ≤ v j ∧ v j ≤ 2000000
  u : ∀ r, r < n → -1000000 ≤ u r ∧ u r ≤ 1000000
structure BestIs (n : Nat) (c : Nat → Nat → Int) (u v p : Nat → Int) : Prop where
  bnd : Bnd n u v
  feas : ∀ r j, r < n → j < n → c r j ≤ u r + v j
  post : ∀ r, r < n → ∃ j : Nat, j < n ∧ p r = j ∧ u r + v j = c r j
  inj : ∀ r s, r < n → s < n → p r = p s → r = s
structure WZ where
  m : Nat
  j : Int
  g : Nat → Int
structure WS (n : Nat) (c : Nat → Nat → Int) (i : Nat) (u v own : Nat → Int) (T : List Nat) (by' : Nat → Int) (m : Nat) (j : Int) (g : Nat → Int) : Prop where
  is : (∃ (l : Nat) (pre : List Nat), j = l ∧ m = pre.length + 1 ∧ AG n c i u v own T by' pre l g) ∨ (j = -1 ∧ SI n c (i + 1) u v g)
structure UX (n i : Nat) (u : Nat → Int) : Prop where
  b : ∀ r, i < r → r < n → -1000000 ≤ u r ∧ u r ≤ 1000000
structure UZ where
  k : Nat
  u : Nat → Int
  v : Nat → Int
  l : Nat → Int
structure US (n i : Nat) (T : List Nat) (own : Nat → Int) (k : Nat) (D : Int) (u v lack u2 v2 l2 : Nat → Int) : Prop where
  hu : ∀ r, r < n → ((r = i ∨ ∃ b, b < k ∧ b ∈ T ∧ own b = r) → u2 r = u r - D) ∧ (¬ (r = i ∨ ∃ b, b < k ∧ b ∈ T ∧ own b = r) → u2 r = u r)
  hv : ∀ j, j < n → (j < k ∧ j ∈ T → v2 j = v j + D) ∧ (¬ (j < k ∧ j ∈ T) → v2 j = v j)
  hk : ∀ j, j < n → (j < k ∧ j ∉ T → l2 j = lack j - D) ∧ (¬ (j < k ∧ j ∉ T) → l2 j = lack j)
section
variable {n : Nat} {c : Nat → Nat → Int} {i : Nat} {u v own : Nat → Int} {T : List Nat} {by' lack : Nat → Int}
theorem RI.by2 (R : RI n c i u v own T by') {b2 : Nat → Int} (h : ∀ j ∈ T, b2 j = by' j) : RI n c i u v own T b2 :=
  ⟨R.si, R.feasI, R.nd, R.tn, fun T1 b T2 e => by
    have hb := h b (by rw [e]; simp)
    rcases R.ch T1 b T2 e with ⟨q1, q2⟩ | ⟨x, r, q0, q1, q2, q3⟩
    · exact .inl ⟨by rw [hb]; exact q1, q2⟩
    · exact .inr ⟨x, r, q0, by rw [hb]; exact q1, q2, q3⟩⟩
theorem RI.pos (R : RI n c i u v own T by') (L : LK n c i u v own T T true lack by') {l : Nat} (hl : l < n) (hlT : l ∉ T) : 0 ≤ lack l := by
  rcases L.ex rfl l hl hlT with ⟨_, q⟩ | ⟨b, r, q0, q1, q2, q3⟩
  · have := R.feasI l hl; omega
  · obtain ⟨r', h1, h2⟩ := R.row q0
    have : r = r' := by rw [q2] at h2; omega
    subst this
    have := R.si.feas r l h1 hl; omega
theorem RI.top (R : RI n c i u v own T by') (L : LK n c i u v own T T true lack by') (hi : i < n) (hc : ∀ r j, r < n → j < n → -1000000 ≤ c r j ∧ c r j ≤ 1000000) (hu : u i ≤ 1000000) {l : Nat} (hl : l < n) (hlT : l ∉ T) : lack l ≤ 4000000 := by
  have Sb := R.si.bounds hi hc
  have := Sb.1 l hl
  rcases L.ex rfl l hl hlT with ⟨_, q⟩ | ⟨b, r, q0, q1, q2, q3⟩
  · have := hc i l hi hl; omega
  · obtain ⟨r', h1, h2⟩ := R.row q0
    have : r = r' := by rw [q2] at h2; omega
    subst this
    have := Sb.2 r h1
    have := hc r l (by omega) hl; omega
end
theorem SI.full {n : Nat} {c : Nat → Nat → Int} {u v own : Nat → Int} (S : SI n c n u v own) {j : Nat} (hj : j < n) : ∃ r : Nat, r < n ∧ own j = r := by
  rcases S.ow j hj with h | h
  · exfalso
    obtain ⟨f, hf⟩ : ∃ f : Nat → Nat, ∀ r, r < n → f r < n ∧ own (f r) = r := ⟨fun r => if h : r < n then Classical.choose (S.all r h) else 0, fun r hr => by
      have := Classical.choose_spec (S.all r hr)
      simp only [hr, dif_pos]; exact this⟩
    have h1 := nodup_sub_len ((List.range n).map f) ((List.range n).erase j) (nodup_map List.nodup_range fun x hx y hy e => by
      have h1 := (hf x (List.mem_range.1 hx)).2
      have h2 := (hf y (List.mem_range.1 hy)).2
      rw [e, h2] at h1; omega) (fun x hx => by
      obtain ⟨r, hr, rfl⟩ := List.mem_map.1 hx
      obtain ⟨h1, h2⟩ := hf r (List.mem_range.1 hr)
      refine (List.mem_erase_of_ne (fun e => ?_)).2 (List.mem_range.2 h1)
      rw [e, h] at h2; omega)
    rw [List.length_erase_of_mem (List.mem_range.2 hj)] at h1
    simp at h1
    omega
  · exact h
structure PZ where
  j : Nat
  p : Nat → Int
structure PS (own : Nat → Int) (j : Nat) (p : Nat → Int) : Prop where
  a : ∀ (x r : Nat), x < j → own x = r → p r = x
theorem tB_snoc {T : List Nat} {l : Nat} : upf (tB T) l true = tB (T ++ [l]) := by
  funext j
  unfold upf tB
  by_cases e : j = l
  · subst e; simp
  · simp [e]
theorem SI.upd {n i : Nat} {c : Nat → Nat → Int} {u v own : Nat → Int} (S : SI n c i u v own) (M : Int) : SI n c i (upf u i M) v own := by
  have ne : ∀ r, r < i → upf u i M r = u r := fun r hr => upf_ne u M (by omega)
  refine ⟨S.ow, S.inj, S.all, fun j r hj hr => ?_, fun r j hr hj => ?_, S.v0, S.fr⟩
  · rcases S.ow j hj with h | ⟨r', h1, h2⟩
    · rw [hr] at h; omega
    · have : r = r' := by rw [hr] at h2; omega
      subst this
      rw [ne r h1]; exact S.tight j r hj hr
  · rw [ne r hr]; exact S.feas r j hr hj
theorem w_best (C : List (List Int)) (n : Nat) (O : OffOk C n) :
    ACalls Try.prog 58 [.sl n (partsC C)] AHeap.empty fun r h' => ∃ (bu bv bp : Nat) (u v p : Nat → Int), ¬ bu = bv ∧ ¬ bu = bp ∧ ¬ bv = bp ∧ BestIs n (cF C) u v p ∧ r = .tup [.osl bp 0 n 1, .osl bu 0 n 1, .osl bv 0 n 1] ∧ h' = ((AHeap.empty.upd bu (.cells (iarr n u))).upd bv (.cells (iarr n v))).upd bp (.cells (iarr n p)) := by
  obtain ⟨Q, hQ⟩ : ∃ Q : AV → AHeap → Prop, Q = fun r h' => ∃ (bu bv bp : Nat) (u v p : Nat → Int), ¬ bu = bv ∧ ¬ bu = bp ∧ ¬ bv = bp ∧ BestIs n (cF C) u v p ∧ r = .tup [.osl bp 0 n 1, .osl bu 0 n 1, .osl bv 0 n 1] ∧ h' = ((AHeap.empty.upd bu (.cells (iarr n u))).upd bv (.cells (iarr n v))).upd bp (.cells (iarr n p)) := ⟨_, rfl⟩
  rw [← hQ]
  refine acalls_of Try.func58 rfl Try.call58 (by kernel_rfl) (by show _ ≤ (206 : Nat); simp) ?_
  have n1 := O.n1
  have n2 : (n : Int) < 1073741824 := by omega
  have cb := O.c
  obtain ⟨c, hc⟩ : ∃ c, c = cF C := ⟨_, rfl⟩
  rw [← hc] at hQ cb
  obtain ⟨V, hV⟩ : ∃ V, V = AV.sl n (partsC C) := ⟨_, rfl⟩
  simp
  refine awp_drawM (by kernel_rfl) (fun _ => 0) [[], [], [], [], [], []] (by kernel_rfl) (by kernel_rfl) ?_
  simp [n2, rep_iarr]
  intro bu hbu
  simp [n2, rep_iarr]
  intro bv hbv
  simp at hbv
  simp [hbv]
  intro b27 hb27
  simp at hb27
  simp [hb27, hbv]
  obtain ⟨H1, hH1⟩ : ∃ H1, H1 = (AHeap.empty.upd bu (.cells (iarr n fun _ => 0))).upd bv (.cells (iarr n fun _ => 0)) := ⟨_, rfl⟩
  rw [← hH1]
  refine ACalls.mono (w_Repeat (-1) n n1 _ b27 AHeap.upd_same) ?_
  rintro _ _ ⟨bo, hbo, rfl, rfl⟩
  rw [intC_rep]
  simp
  have d27 : H1 b27 = none := by rw [hH1]; simp [AHeap.upd, hb27, AHeap.empty]
  have hbo1 : ¬ bo = b27 ∧ Fresh H1 bo := by simp at hbo; exact ⟨hbo.1, hbo.2.2⟩
  have nbo : ¬ bo = bu ∧ ¬ bo = bv ∧ ¬ bu = bo ∧ ¬ bv = bo := by
    have := hbo1.2
    rw [hH1] at this
    simp at this
    exact ⟨by simp [this], by simp [this], by simp [this], by simp [this]⟩
  have SI0 : SI n c 0 (fun _ => 0) (fun _ => 0) (fun _ => -1) :=
    ⟨fun j _ => .inl rfl, fun j k _ _ _ h => absurd rfl h, fun r h => absurd h (Nat.not_lt_zero r), fun j r _ h => (by omega), fun r j h => absurd h (Nat.not_lt_zero r), fun j _ => Int.le_refl _, fun j _ _ => rfl⟩
  refine awp_loop_g (γ := BZ) (fun z t h => (z.i ≤ n) ∧ (SI n c z.i z.u z.v z.own) ∧ (Bnd n z.u z.v) ∧ t 0 = .sl n (partsC C) ∧ t 3 = .osl bu 0 n 1 ∧ t 4 = .osl bv 0 n 1 ∧ t 5 = .int .i64 n ∧ t 6 = .osl bo 0 n 1 ∧ t 30 = .int .i64 n ∧ t 31 = .int .i64 z.i ∧ h = ((AHeap.empty.upd bu (.cells (iarr n z.u))).upd bv (.cells (iarr n z.v))).upd bo (.cells (iarr n z.own))) (fun z => n - z.i) (⟨0, fun _ => 0, fun _ => 0, fun _ => -1⟩) (turnA_to (H1.upd bo (.cells (iarr n fun _ => -1))) (Drop.both (Drop.new (Drop.refl _) d27)) ⟨Nat.zero_le _, SI0, ⟨fun j _ => by simp, fun r _ => by simp⟩, by simp [hH1]⟩) ?_
  rintro z t hx ⟨hi, hS, hB, h0, h3, h4, h5, h6, h30, h31, ex⟩
  obtain ⟨i, u, v, own⟩ := z
  simp only at h0 h3 h4 h5 h6 h30 h31 hi hS hB ex
  rw [ex]
  clear ex
  by_cases hin : i < n
  rotate_left
  · have hiN : i = n := by omega
    rw [hiN] at hS
    simp [h0, h3, h4, h5, h6, h30, h31, hiN, n2, rep_iarr]
    intro bp hbp
    simp at hbp
    simp [h0, h3, h4, h5, h6, h30, h31, hbp]
    refine awp_loop_g (γ := PZ) (fun y t h => (y.j ≤ n) ∧ (PS own y.j y.p) ∧ t 2 = .osl bp 0 n 1 ∧ t 3 = .osl bu 0 n 1 ∧ t 4 = .osl bv 0 n 1 ∧ t 191 = .osl bo 0 n 1 ∧ t 192 = .int .i64 n ∧ t 193 = .int .i64 y.j ∧ h = (((AHeap.empty.upd bu (.cells (iarr n u))).upd bv (.cells (iarr n v))).upd bo (.cells (iarr n own))).upd bp (.cells (iarr n y.p))) (fun y => n - y.j) (⟨0, fun _ => 0⟩) (turnA_self ⟨Nat.zero_le _, ⟨fun x r h => absurd h (Nat.not_lt_zero x)⟩, by simp [h0, h3, h4, h5, h6, h30, h31]⟩) ?_
    rintro y t hy ⟨hj, hP, h2, h3, h4, h191, h192, h193, ey⟩
    obtain ⟨j, p⟩ := y
    simp only at h2 h3 h4 h191 h192 h193 hj hP ey
    rw [ey]
    clear ey
    by_cases hjn : j < n
    · have hjnI : (j : Int) < (n : Int) := by omega
      have hwj : IntKind.i64.wrap ((j : Int) + 1) = (j : Int) + 1 := wrap_i64 (by omega) (by omega)
      obtain ⟨r, hrn, hor⟩ := hS.full hjn
      have hrnI : (r : Int) < (n : Int) := by omega
      simp [h2, h3, h4, h191, h192, h193, hjn, hjnI, hrn, hrnI, hor, hbp, hbv, nbo, iarr_dr hjn, splice_one, iarr_set]
      refine ⟨by omega, turnA_self ⟨⟨j + 1, upf p r j⟩, by simp only; omega, by simp only; omega, ⟨fun x r' hx hr' => ?_⟩, by simp [h2, h3, h4, h191, h192, h193, hwj]⟩⟩
      simp only at hx ⊢
      by_cases e : x = j
      · subst e
        have : r' = r := by rw [hor] at hr'; omega
        rw [this, upf_same]
      · have : r' ≠ r := fun q => by
          rw [q] at hr'
          exact e (hS.inj x j (by omega) hjn (by rw [hr', hor]) (by rw [hr']; omega))
        rw [upf_ne _ _ this]
        exact hP.a x r' (by omega) hr'
    · have hjE : j = n := by omega
      rw [hjE] at hP
      simp [h2, h3, h4, h191, h192, h193, hjE]
      refine finA_same (((AHeap.empty.upd bu (.cells (iarr n u))).upd bv (.cells (iarr n v))).upd bp (.cells (iarr n p))) (Drop.both (Drop.new (Drop.refl _) ?_)) ?_
      · simp [AHeap.upd, nbo, AHeap.empty]
      · rw [hQ]
        refine ⟨bu, bv, bp, u, v, p, hbv.2, hbp.2.2.2.2.2, hbp.2.2.2.1, ⟨hB, fun r j hr hj => hS.feas r j hr hj, fun r hr => ?_, fun r s hr hs e => ?_⟩, rfl, rfl⟩
        · obtain ⟨j, h1, h2⟩ := hS.all r hr
          exact ⟨j, h1, hP.a j r h1 h2, hS.tight j r h1 h2⟩
        · obtain ⟨j, h1, h2⟩ := hS.all r hr
          obtain ⟨k, h3, h4⟩ := hS.all s hs
          rw [hP.a j r h1 h2, hP.a k s h3 h4] at e
          have : j = k := by omega
          subst this
          rw [h2] at h4; omega
  have hinI : (i : Int) < (n : Int) := by omega
  have hwi : IntKind.i64.wrap ((i : Int) + 1) = (i : Int) + 1 := wrap_i64 (by omega) (by omega)
  obtain ⟨row, hr1, hr2, hr3⟩ := O.row hin
  have hat := partsC_row hr1
  have hpl : (partsC C).length = n := by simp [partsC, O.len]
  have hrn : row ≠ [] := fun e => by rw [e] at hr2; simp at hr2; omega
  have cM := w_Max row (by omega) hrn
  rw [hr2] at hat cM
  obtain ⟨M, hM⟩ : ∃ M, M = maxB row := ⟨_, rfl⟩
  obtain ⟨hM1, hM2⟩ := maxB_spec hrn
  rw [← hM] at cM hM1 hM2
  simp [h0, h3, h4, h5, h6, h30, h31, hin, hinI, hat, hpl]
  refine cM.use ?_
  simp [h0, h3, h4, h5, h6, h30, h31, hin, hinI, hbv, nbo, splice_one, iarr_set]
  refine ⟨by omega, fun b42 hb42 => ?_⟩
  simp at hb42
  simp [h0, h3, h4, h5, h6, h30, h31, hb42]
  refine ACalls.mono (w_Repeat64 1152921504606846976 n n1 _ b42 AHeap.upd_same) ?_
  rintro _ _ ⟨bl, hbl, rfl, rfl⟩
  simp at hbl
  rw [intC_rep]
  simp [h0, h3, h4, h5, h6, h30, h31, hbl, hb42]
  intro b45 hb45
  simp at hb45
  simp [h0, h3, h4, h5, h6, h30, h31, hb45]
  refine ACalls.mono (w_Repeat (-1) n n1 _ b45 AHeap.upd_same) ?_
  rintro _ _ ⟨bb, hbb, rfl, rfl⟩
  simp at hbb
  rw [intC_rep]
  simp [h0, h3, h4, h5, h6, h30, h31, n2, rep_barr]
  intro bs hbs
  simp at hbs
  simp [h0, h3, h4, h5, h6, h30, h31, hbs]
  have d42 := hb42
  obtain ⟨B5, hB5⟩ : ∃ B5, B5 = ((AHeap.empty.upd bu (.cells (iarr n (upf u i M)))).upd bv (.cells (iarr n v))).upd bo (.cells (iarr n own)) := ⟨_, rfl⟩
  have hcM : ∀ j, j < n → c i j ≤ M := fun j hj => by rw [hc]; exact hM2 _ (List.mem_of_getElem? (hr3 j hj))
  have hMb : -1000000 ≤ M ∧ M ≤ 1000000 := O.sm row (List.mem_of_getElem? hr1) M hM1
  have hR0 : RI n c i (upf u i M) v own [] (fun _ => -1) := ⟨hS.upd M, fun j hj => by rw [upf_same]; have := hcM j hj; have := hS.v0 j hj; omega, List.nodup_nil, (fun j hj => nomatch hj), fun T1 b T2 e => by simp at e⟩
  have hL0 : LK n c i (upf u i M) v own [] [] false (fun _ => 1152921504606846976) (fun _ => -1) := ⟨fun _ j _ _ => rfl, (fun h => nomatch h), (fun h => nomatch h)⟩
  have tB0 : tB [] = fun _ => false := rfl
  have hdrop : Drop ((((((((AHeap.empty.upd bu (.cells (iarr n (upf u i M)))).upd bv (.cells (iarr n v))).upd bo (.cells (iarr n own))).upd b42 (.cells [.int .i64 1152921504606846976])).upd bl (.cells (iarr n fun _ => 1152921504606846976))).upd b45 (.cells [.int .i64 (-1)])).upd bb (.cells (iarr n fun _ => -1))).upd bs (.cells (barr n fun _ => false))) ((((((AHeap.empty.upd bu (.cells (iarr n (upf u i M)))).upd bv (.cells (iarr n v))).upd bo (.cells (iarr n own))).upd bl (.cells (iarr n fun _ => 1152921504606846976))).upd bb (.cells (iarr n fun _ => -1))).upd bs (.cells (barr n fun _ => false))) := by
    refine Drop.both (Drop.both (Drop.new (Drop.both (Drop.new (Drop.refl _) ?_)) ?_))
    · simp [AHeap.upd, hb42, AHeap.empty]
    · simp [AHeap.upd, hb45, AHeap.empty]
  refine awp_loop_g (γ := RZ) (fun z t h => (RI n c i z.u z.v own z.T z.by') ∧ (LK n c i z.u z.v own z.T z.T0 z.z z.lack z.by') ∧ ((z.z = false ∧ z.T = [] ∧ z.T0 = [] ∧ z.p = i ∧ z.last = -1) ∨ (z.z = true ∧ ∃ l : Nat, z.T = z.T0 ++ [l] ∧ z.last = l ∧ own l = z.p)) ∧ (z.u i ≤ 1000000) ∧ (UX n i z.u) ∧ (z.p ≤ i) ∧ t 0 = .sl n (partsC C) ∧ t 3 = .osl bu 0 n 1 ∧ t 4 = .osl bv 0 n 1 ∧ t 5 = .int .i64 n ∧ t 6 = .osl bo 0 n 1 ∧ t 30 = .int .i64 n ∧ t 31 = .int .i64 i ∧ t 7 = .int .i64 i ∧ t 8 = .osl bl 0 n 1 ∧ t 9 = .osl bb 0 n 1 ∧ t 10 = .osl bs 0 n 1 ∧ t 11 = .int .i64 z.p ∧ t 12 = .int .i64 z.last ∧ h = (((((AHeap.empty.upd bu (.cells (iarr n z.u))).upd bv (.cells (iarr n z.v))).upd bo (.cells (iarr n own))).upd bl (.cells (iarr n z.lack))).upd bb (.cells (iarr n z.by'))).upd bs (.cells (barr n (tB z.T)))) (fun z => n - z.T.length) (⟨[], [], false, upf u i M, v, fun _ => 1152921504606846976, fun _ => -1, i, -1⟩) (turnA_to ((((((AHeap.empty.upd bu (.cells (iarr n (upf u i M)))).upd bv (.cells (iarr n v))).upd bo (.cells (iarr n own))).upd bl (.cells (iarr n fun _ => 1152921504606846976))).upd bb (.cells (iarr n fun _ => -1))).upd bs (.cells (barr n fun _ => false))) hdrop ⟨hR0, hL0, .inl ⟨rfl, rfl, rfl, rfl, rfl⟩, by simp; omega, ⟨fun r h1 h2 => by simp only; rw [upf_ne _ _ (by omega)]; exact hB.u r h2⟩, Nat.le_refl _, by simp [h0, h3, h4, h5, h6, h30, h31, tB0]⟩) ?_
  rintro z t hx ⟨hR, hL, hp, hui, hux, hpi, h0, h3, h4, h5, h6, h30, h31, h7, h8, h9, h10, h11, h12, ex⟩
  clear hdrop hB hM1 hM2 hcM hMb hR0 hL0 cM d42
  obtain ⟨T, T0, zf, u, v, lack, by', p, last⟩ := z
  simp only at h0 h3 h4 h5 h6 h30 h31 h7 h8 h9 h10 h11 h12 hR hL hp hui hux hpi ex
  rw [ex]
  clear ex
  have Sb := hR.si.bounds hin cb
  have uil := hR.lowI hin cb
  have hup : -1000000 ≤ u p ∧ u p ≤ 1000000 := by
    by_cases e : p = i
    · rw [e]; exact ⟨uil, hui⟩
    · exact Sb.2 p (by omega)
  have hpn : p < n := by omega
  have hpnI : (p : Int) < (n : Int) := by omega
  obtain ⟨d, hd⟩ : ∃ d : Nat → Int, d = fun j => u p + v j - c p j := ⟨_, rfl⟩
  have hdb : ∀ j, j < n → -4000000 ≤ d j ∧ d j ≤ 4000000 := fun j hj => by
    have := Sb.1 j hj; have := cb p j hpn hj
    rw [hd]; simp only; omega
  obtain ⟨rowp, hq1, hq2, hq3⟩ := O.row hpn
  have haP := partsC_row hq1
  rw [hq2] at haP
  simp [h0, h3, h4, h5, h6, h30, h31, h7, h8, h9, h10, h11, h12]
  refine loop_cut (fun t hq => ∃ L2 : Nat → Int, ∃ B2 : Nat → Int, ∃ l : Nat, (LK n c i u v own T T true L2 B2) ∧ (RI n c i u v own T B2) ∧ (l < n) ∧ (l ∉ T) ∧ (∀ j, j < n → j ∉ T → L2 l ≤ L2 j) ∧ t 0 = .sl n (partsC C) ∧ t 3 = .osl bu 0 n 1 ∧ t 4 = .osl bv 0 n 1 ∧ t 5 = .int .i64 n ∧ t 6 = .osl bo 0 n 1 ∧ t 30 = .int .i64 n ∧ t 31 = .int .i64 i ∧ t 7 = .int .i64 i ∧ t 8 = .osl bl 0 n 1 ∧ t 9 = .osl bb 0 n 1 ∧ t 10 = .osl bs 0 n 1 ∧ t 13 = .int .i64 l ∧ hq = (((((AHeap.empty.upd bu (.cells (iarr n u))).upd bv (.cells (iarr n v))).upd bo (.cells (iarr n own))).upd bl (.cells (iarr n L2))).upd bb (.cells (iarr n B2))).upd bs (.cells (barr n (tB T)))) ?_ ?_
  · refine awp_loop_g (γ := KZ) (fun y t h => (y.k ≤ n) ∧ (KS n T y.k d lack by' last y.lack y.by') ∧ (KL T y.k y.lack y.least) ∧ t 0 = .sl n (partsC C) ∧ t 3 = .osl bu 0 n 1 ∧ t 4 = .osl bv 0 n 1 ∧ t 5 = .int .i64 n ∧ t 6 = .osl bo 0 n 1 ∧ t 30 = .int .i64 n ∧ t 31 = .int .i64 i ∧ t 7 = .int .i64 i ∧ t 8 = .osl bl 0 n 1 ∧ t 9 = .osl bb 0 n 1 ∧ t 10 = .osl bs 0 n 1 ∧ t 11 = .int .i64 p ∧ t 12 = .int .i64 last ∧ t 13 = .int .i64 y.least ∧ t 51 = .int .i64 n ∧ t 52 = .int .i64 y.k ∧ h = (((((AHeap.empty.upd bu (.cells (iarr n u))).upd bv (.cells (iarr n v))).upd bo (.cells (iarr n own))).upd bl (.cells (iarr n y.lack))).upd bb (.cells (iarr n y.by'))).upd bs (.cells (barr n (tB T)))) (fun y => n - y.k) (⟨0, lack, by', -1⟩) (turnA_self ⟨Nat.zero_le _, ⟨fun j hj => ⟨fun h => absurd h.1 (Nat.not_lt_zero j), fun _ => ⟨rfl, rfl⟩⟩⟩, ⟨.inl ⟨rfl, fun j h => absurd h (Nat.not_lt_zero j)⟩⟩, by simp [h0, h3, h4, h5, h6, h30, h31, h7, h8, h9, h10, h11, h12]⟩) ?_
    rintro y t hy ⟨hk, h2a, hle, h0, h3, h4, h5, h6, h30, h31, h7, h8, h9, h10, h11, h12, h13, h51, h52, ey⟩
    obtain ⟨k, la, ba, le⟩ := y
    simp only at h0 h3 h4 h5 h6 h30 h31 h7 h8 h9 h10 h11 h12 h13 h51 h52 hk h2a hle ey
    rw [ey]
    clear ey
    by_cases hkn : k < n
    rotate_left
    · have hkE : k = n := by omega
      subst hkE
      simp [h0, h3, h4, h5, h6, h30, h31, h7, h8, h9, h10, h11, h12, h13, h51, h52]
      have hLK := hL.scan hp (fun j hj => by have := hdb j hj; rw [hd] at this; simp only at this; omega) (lack2 := la) (by2 := ba) (fun j hj hjT => by have := (h2a.a j hj).1 ⟨hj, hjT⟩; rw [hd] at this; exact this)
      have hRI := hR.by2 (b2 := ba) (fun j hjT => ((h2a.a j (hR.tn j hjT).1).2 (fun q => q.2 hjT)).2)
      rcases hle.is with ⟨_, hall⟩ | ⟨l, rfl, hlk, hlT, hlm⟩
      · obtain ⟨j, hj, hjT⟩ := hR.unseen hin
        exact absurd (hall j hj) hjT
      · exact ⟨la, ba, hLK, hRI, l, hlk, hlT, hlm, by simp⟩
    have hknI : (k : Int) < (n : Int) := by omega
    have hwk : IntKind.i64.wrap ((k : Int) + 1) = (k : Int) + 1 := wrap_i64 (by omega) (by omega)
    simp [h0, h3, h4, h5, h6, h30, h31, h7, h8, h9, h10, h11, h12, h13, h51, h52, hkn, hknI, hbv, nbo, hbl, hbb, hbs, barr_dr hkn]
    obtain ⟨A, hA⟩ : ∃ A, tB T k = A := ⟨_, rfl⟩
    rw [hA]
    cases A with
    | true =>
      have hkT : k ∈ T := by simpa [tB] using hA
      simp [h0, h3, h4, h5, h6, h30, h31, h7, h8, h9, h10, h11, h12, h13, h51, h52]
      refine turnA_self ⟨⟨k + 1, la, ba, le⟩, by simp only; omega, by simp only; omega, ⟨fun j hj => ?_⟩, ⟨?_⟩, by simp [h0, h3, h4, h5, h6, h30, h31, h7, h8, h9, h10, h11, h12, h13, h51, h52, hwk]⟩
      · have := h2a.a j hj
        refine ⟨fun q => this.1 ⟨?_, q.2⟩, fun q => this.2 (fun z => q ⟨Nat.lt_succ_of_lt z.1, z.2⟩)⟩
        have h1 : j < k + 1 := q.1
        have h2 : j ≠ k := fun e => q.2 (e ▸ hkT)
        omega
      · rcases hle.is with ⟨h1, h2⟩ | ⟨l, h1, h2, h3, h4⟩
        · refine .inl ⟨h1, fun j hj => ?_⟩
          have hj : j < k + 1 := hj
          by_cases e : j = k
          · rw [e]; exact hkT
          · exact h2 j (by omega)
        · refine .inr ⟨l, h1, Nat.lt_succ_of_lt h2, h3, fun j hj hjT => ?_⟩
          have hj : j < k + 1 := hj
          have : j ≠ k := fun e => hjT (e ▸ hkT)
          exact h4 j (by omega) hjT
    | false =>
      have hkT : k ∉ T := by
        intro q
        have : tB T k = true := by simpa [tB] using q
        rw [hA] at this; cases this
      have hdk := hdb k hkn
      have vk := Sb.1 k hkn
      have w1 : IntKind.i64.wrap (u p + v k) = u p + v k := wrap_i64 (by omega) (by omega)
      have w2 : IntKind.i64.wrap (u p + v k - c p k) = d k := by
        have : u p + v k - c p k = d k := by rw [hd]
        rw [this]; exact wrap_i64 (by omega) (by omega)
      have hgc := intC_at (hq3 k hkn)
      rw [← hc] at hgc
      have hgl : k < rowp.length := by omega
      simp [h0, h3, h4, h5, h6, h30, h31, h7, h8, h9, h10, h11, h12, h13, h51, h52]
      refine awp_draw_text (by kernel_rfl) [] [] (by kernel_rfl) (by kernel_rfl) (by simp) ?_
      simp [h0, h3, h4, h5, h6, h30, h31, h7, h8, h9, h10, h11, h12, h13, h51, h52, hkn, hknI, hpn, hpnI, hbv, nbo, hbl, hbb, hbs, iarr_dr hkn, iarr_dr hpn, haP, hgc, hpl, hq2, hgl, w1, w2]
      refine condA_cut (fun t hq => ∃ LX : Nat → Int, ∃ BX : Nat → Int, (if d k < la k then LX = upf la k (d k) ∧ BX = upf ba k last else LX = la ∧ BX = ba) ∧ t 0 = .sl n (partsC C) ∧ t 3 = .osl bu 0 n 1 ∧ t 4 = .osl bv 0 n 1 ∧ t 5 = .int .i64 n ∧ t 6 = .osl bo 0 n 1 ∧ t 30 = .int .i64 n ∧ t 31 = .int .i64 i ∧ t 7 = .int .i64 i ∧ t 8 = .osl bl 0 n 1 ∧ t 9 = .osl bb 0 n 1 ∧ t 10 = .osl bs 0 n 1 ∧ t 11 = .int .i64 p ∧ t 12 = .int .i64 last ∧ t 51 = .int .i64 n ∧ t 13 = .int .i64 le ∧ t 14 = .int .i64 k ∧ t 52 = .int .i64 k ∧ hq = (((((AHeap.empty.upd bu (.cells (iarr n u))).upd bv (.cells (iarr n v))).upd bo (.cells (iarr n own))).upd bl (.cells (iarr n LX))).upd bb (.cells (iarr n BX))).upd bs (.cells (barr n (tB T)))) ?_ ?_
      · by_cases cd : d k < la k
        · simp [h0, h3, h4, h5, h6, h30, h31, h7, h8, h9, h10, h11, h12, h13, h51, h52, cd, hkn, hknI, hbv, nbo, hbl, hbb, hbs, splice_one, iarr_set]
          exact ⟨by omega, _, _, ⟨rfl, rfl⟩, rfl⟩
        · simp [h0, h3, h4, h5, h6, h30, h31, h7, h8, h9, h10, h11, h12, h13, h51, h52, cd]
          exact ⟨_, _, ⟨rfl, rfl⟩, rfl⟩
      intro t hq ⟨LX, BX, hX, h0, h3, h4, h5, h6, h30, h31, h7, h8, h9, h10, h11, h12, h51, h13, h14, h52, ehq⟩
      rw [ehq]
      clear ehq
      have hla : la k = lack k ∧ ba k = by' k := (h2a.a k hkn).2 (fun q => Nat.lt_irrefl _ q.1)
      have hne : ∀ j, j ≠ k → LX j = la j ∧ BX j = ba j := fun j hj => by
        split at hX
        · rw [hX.1, hX.2]; exact ⟨upf_ne _ _ hj, upf_ne _ _ hj⟩
        · rw [hX.1, hX.2]; exact ⟨rfl, rfl⟩
      have hk2 : if d k < lack k then LX k = d k ∧ BX k = last else LX k = lack k ∧ BX k = by' k := by
        rw [hla.1] at hX
        split at hX
        · next q => rw [if_pos q, hX.1, hX.2]; exact ⟨upf_same _ _ _, upf_same _ _ _⟩
        · next q => rw [if_neg q, hX.1, hX.2]; exact hla
      have hnew : ∀ j, j < n → (j < k + 1 ∧ j ∉ T → if d j < lack j then LX j = d j ∧ BX j = last else LX j = lack j ∧ BX j = by' j) ∧ (¬ (j < k + 1 ∧ j ∉ T) → LX j = lack j ∧ BX j = by' j) := fun j hj => by
        by_cases e : j = k
        · subst e
          exact ⟨fun _ => hk2, fun q => absurd ⟨Nat.lt_succ_self _, hkT⟩ q⟩
        · rw [(hne j e).1, (hne j e).2]
          have := h2a.a j hj
          exact ⟨fun q => this.1 ⟨by omega, q.2⟩, fun q => this.2 (fun z => q ⟨by omega, z.2⟩)⟩
      clear hX hk2
      rcases hle.is with ⟨rfl, hall⟩ | ⟨l, rfl, hlk, hlT, hlm⟩
      · simp [h0, h3, h4, h5, h6, h30, h31, h7, h8, h9, h10, h11, h12, h51, h13, h14, h52]
        refine awp_draw_text (by kernel_rfl) [] [] (by kernel_rfl) (by kernel_rfl) (by simp) ?_
        simp [h0, h3, h4, h5, h6, h30, h31, h7, h8, h9, h10, h11, h12, h51, h13, h14, h52]
        refine turnA_self ⟨⟨k + 1, LX, BX, k⟩, by simp only; omega, by simp only; omega, ⟨hnew⟩, ⟨.inr ⟨k, rfl, Nat.lt_succ_self _, hkT, fun j hj hjT => ?_⟩⟩, by simp [h0, h3, h4, h5, h6, h30, h31, h7, h8, h9, h10, h11, h12, h51, h13, h14, h52, hwk]⟩
        by_cases e : j = k
        · subst e; exact Int.le_refl _
        · exact absurd (hall j (by simp only at hj; omega)) hjT
      · have hln : l < n := by omega
        have hlnI : (l : Int) < (n : Int) := by omega
        have hLl := (hne l (by omega)).1
        have hmm : ∀ j, j < k + 1 → j ∉ T → j ≠ k → LX l ≤ LX j := fun j hj hjT e => by
          rw [hLl, (hne j e).1]; exact hlm j (by omega) hjT
        have hl0 : ¬ (l : Int) < 0 := by omega
        simp [h0, h3, h4, h5, h6, h30, h31, h7, h8, h9, h10, h11, h12, h51, h13, h14, h52, hl0]
        refine awp_draw_text (by kernel_rfl) [] [] (by kernel_rfl) (by kernel_rfl) (by simp) ?_
        simp [h0, h3, h4, h5, h6, h30, h31, h7, h8, h9, h10, h11, h12, h51, h13, h14, h52, hl0, hkn, hknI, hln, hlnI, hbv, nbo, hbl, hbb, hbs, iarr_dr hkn, iarr_dr hln]
        by_cases cd : LX k < LX l
        · simp [h0, h3, h4, h5, h6, h30, h31, h7, h8, h9, h10, h11, h12, h51, h13, h14, h52, cd]
          refine turnA_self ⟨⟨k + 1, LX, BX, k⟩, by simp only; omega, by simp only; omega, ⟨hnew⟩, ⟨.inr ⟨k, rfl, Nat.lt_succ_self _, hkT, fun j hj hjT => ?_⟩⟩, by simp [h0, h3, h4, h5, h6, h30, h31, h7, h8, h9, h10, h11, h12, h51, h13, h14, h52, hwk]⟩
          by_cases e : j = k
          · subst e; exact Int.le_refl _
          · have := hmm j hj hjT e; simp only; omega
        · simp [h0, h3, h4, h5, h6, h30, h31, h7, h8, h9, h10, h11, h12, h51, h13, h14, h52, cd]
          refine turnA_self ⟨⟨k + 1, LX, BX, l⟩, by simp only; omega, by simp only; omega, ⟨hnew⟩, ⟨.inr ⟨l, rfl, by simp only; omega, hlT, fun j hj hjT => ?_⟩⟩, by simp [h0, h3, h4, h5, h6, h30, h31, h7, h8, h9, h10, h11, h12, h51, h13, h14, h52, hwk]⟩
          by_cases e : j = k
          · subst e; simp only; omega
          · exact hmm j hj hjT e
  intro t hq ⟨L2, B2, l, hLK, hRI, hl1, hl2, hl3, h0, h3, h4, h5, h6, h30, h31, h7, h8, h9, h10, h13, ehq⟩
  rw [ehq]
  clear ehq
  clear hL hp hR hup hpn hpnI hd hdb hq1 hq2 hq3 haP hpi
  clear d
  have hD0 := hRI.pos hLK hl1 hl2
  have hD1 := hRI.top hLK hin cb hui hl1 hl2
  obtain ⟨D, hDD⟩ : ∃ D, D = L2 l := ⟨_, rfl⟩
  have hl1I : (l : Int) < (n : Int) := by omega
  have wu : IntKind.i64.wrap (u i - D) = u i - D := wrap_i64 (by omega) (by omega)
  simp [h0, h3, h4, h5, h6, h30, h31, h7, h8, h9, h10, h13, hl1, hl1I, hin, hinI, hbv, nbo, hbl, hbb, hbs, iarr_dr hl1, iarr_dr hin, ← hDD, wu, splice_one, iarr_set]
  refine ⟨by omega, ?_⟩
  rw [← hDD] at hD0 hD1
  have hU0 : US n i T own 0 D u v L2 (upf u i (u i - D)) v L2 := by
    refine ⟨fun r hr => ⟨fun q => ?_, fun q => ?_⟩, fun j hj => ⟨fun q => absurd q.1 (Nat.not_lt_zero j), fun _ => rfl⟩, fun j hj => ⟨fun q => absurd q.1 (Nat.not_lt_zero j), fun _ => rfl⟩⟩
    · rcases q with rfl | ⟨b, hb, _⟩
      · exact upf_same _ _ _
      · exact absurd hb (Nat.not_lt_zero b)
    · exact upf_ne _ _ (fun e => q (.inl e))
  refine awp_loop_g (γ := UZ) (fun y t h => (y.k ≤ n) ∧ (US n i T own y.k D u v L2 y.u y.v y.l) ∧ t 0 = .sl n (partsC C) ∧ t 3 = .osl bu 0 n 1 ∧ t 4 = .osl bv 0 n 1 ∧ t 5 = .int .i64 n ∧ t 6 = .osl bo 0 n 1 ∧ t 30 = .int .i64 n ∧ t 31 = .int .i64 i ∧ t 7 = .int .i64 i ∧ t 8 = .osl bl 0 n 1 ∧ t 9 = .osl bb 0 n 1 ∧ t 10 = .osl bs 0 n 1 ∧ t 13 = .int .i64 l ∧ t 16 = .int .i64 D ∧ t 116 = .int .i64 n ∧ t 117 = .int .i64 y.k ∧ h = (((((AHeap.empty.upd bu (.cells (iarr n y.u))).upd bv (.cells (iarr n y.v))).upd bo (.cells (iarr n own))).upd bl (.cells (iarr n y.l))).upd bb (.cells (iarr n B2))).upd bs (.cells (barr n (tB T)))) (fun y => n - y.k) (⟨0, upf u i (u i - D), v, L2⟩) (turnA_self ⟨Nat.zero_le _, hU0, by simp [h0, h3, h4, h5, h6, h30, h31, h7, h8, h9, h10, h13]⟩) ?_
  rintro y t hy ⟨hk, hU, h0, h3, h4, h5, h6, h30, h31, h7, h8, h9, h10, h13, h16, h116, h117, ey⟩
  clear hU0
  obtain ⟨k, u2, v2, l2⟩ := y
  simp only at h0 h3 h4 h5 h6 h30 h31 h7 h8 h9 h10 h13 h16 h116 h117 hk hU ey
  rw [ey]
  clear ey
  by_cases hkn : k < n
  · have hknI : (k : Int) < (n : Int) := by omega
    have hwk : IntKind.i64.wrap ((k : Int) + 1) = (k : Int) + 1 := wrap_i64 (by omega) (by omega)
    simp [h0, h3, h4, h5, h6, h30, h31, h7, h8, h9, h10, h13, h16, h116, h117, hkn, hknI, hbv, nbo, hbl, hbb, hbs, barr_dr hkn]
    obtain ⟨A, hA⟩ : ∃ A, tB T k = A := ⟨_, rfl⟩
    rw [hA]
    cases A with
    | true =>
      have hkT : k ∈ T := by simpa [tB] using hA
      obtain ⟨r, hri, hor⟩ := hRI.row hkT
      have hrn : r < n := by omega
      have hrnI : (r : Int) < (n : Int) := by omega
      have hu2r : u2 r = u r := (hU.hu r hrn).2 (by
        rintro (e | ⟨b, h1, h2, h3⟩)
        · omega
        · have := hRI.si.inj b k (hRI.tn b h2).1 hkn (by rw [h3, hor]) (hRI.tn b h2).2
          omega)
      have hv2k : v2 k = v k := (hU.hv k hkn).2 (fun q => Nat.lt_irrefl _ q.1)
      have bu1 := Sb.2 r hri
      have bv1 := Sb.1 k hkn
      have w1 : IntKind.i64.wrap (u r - D) = u r - D := wrap_i64 (by omega) (by omega)
      have w2 : IntKind.i64.wrap (v k + D) = v k + D := wrap_i64 (by omega) (by omega)
      simp [h0, h3, h4, h5, h6, h30, h31, h7, h8, h9, h10, h13, h16, h116, h117, hkn, hknI, hrn, hrnI, hor, hbv, nbo, hbl, hbb, hbs, iarr_dr hkn, iarr_dr hrn, hu2r, hv2k, w1, w2, splice_one, iarr_set]
      refine ⟨by omega, by omega, turnA_self ⟨⟨k + 1, upf u2 r (u r - D), upf v2 k (v k + D), l2⟩, by simp only; omega, by simp only; omega, ⟨fun x hx => ?_, fun j hj => ?_, fun j hj => ?_⟩, by simp [h0, h3, h4, h5, h6, h30, h31, h7, h8, h9, h10, h13, h16, h116, h117, hwk]⟩⟩
      · simp only
        by_cases e : x = r
        · subst e
          rw [upf_same]
          exact ⟨fun _ => rfl, fun q => absurd (.inr ⟨k, Nat.lt_succ_self _, hkT, hor⟩) q⟩
        · rw [upf_ne _ _ e]
          have := hU.hu x hx
          refine ⟨fun q => this.1 ?_, fun q => this.2 (fun z => q ?_)⟩
          · rcases q with q | ⟨b, h1, h2, h3⟩
            · exact .inl q
            · refine .inr ⟨b, ?_, h2, h3⟩
              have : b ≠ k := fun e' => by rw [e', hor] at h3; omega
              omega
          · rcases z with z | ⟨b, h1, h2, h3⟩
            · exact .inl z
            · exact .inr ⟨b, by omega, h2, h3⟩
      · simp only
        by_cases e : j = k
        · subst e
          rw [upf_same]
          exact ⟨fun _ => rfl, fun q => absurd ⟨Nat.lt_succ_self _, hkT⟩ q⟩
        · rw [upf_ne _ _ e]
          have := hU.hv j hj
          exact ⟨fun q => this.1 ⟨by omega, q.2⟩, fun q => this.2 (fun z => q ⟨by omega, z.2⟩)⟩
      · simp only
        have := hU.hk j hj
        refine ⟨fun q => this.1 ⟨?_, q.2⟩, fun q => this.2 (fun z => q ⟨by omega, z.2⟩)⟩
        have : j ≠ k := fun e => q.2 (e ▸ hkT)
        omega
    | false =>
      have hkT : k ∉ T := by
        intro q
        have : tB T k = true := by simpa [tB] using q
        rw [hA] at this; cases this
      have hl2k : l2 k = L2 k := (hU.hk k hkn).2 (fun q => Nat.lt_irrefl _ q.1)
      have b1 := hRI.pos hLK hkn hkT
      have b2 := hRI.top hLK hin cb hui hkn hkT
      have w1 : IntKind.i64.wrap (L2 k - D) = L2 k - D := wrap_i64 (by omega) (by omega)
      simp [h0, h3, h4, h5, h6, h30, h31, h7, h8, h9, h10, h13, h16, h116, h117, hkn, hknI, hbv, nbo, hbl, hbb, hbs, iarr_dr hkn, hl2k, w1, splice_one, iarr_set]
      refine ⟨by omega, turnA_self ⟨⟨k + 1, u2, v2, upf l2 k (L2 k - D)⟩, by simp only; omega, by simp only; omega, ⟨fun x hx => ?_, fun j hj => ?_, fun j hj => ?_⟩, by simp [h0, h3, h4, h5, h6, h30, h31, h7, h8, h9, h10, h13, h16, h116, h117, hwk]⟩⟩
      · simp only
        have := hU.hu x hx
        refine ⟨fun q => this.1 ?_, fun q => this.2 (fun z => q ?_)⟩
        · rcases q with q | ⟨b, h1, h2, h3⟩
          · exact .inl q
          · refine .inr ⟨b, ?_, h2, h3⟩
            have : b ≠ k := fun e' => hkT (e' ▸ h2)
            omega
        · rcases z with z | ⟨b, h1, h2, h3⟩
          · exact .inl z
          · exact .inr ⟨b, by omega, h2, h3⟩
      · simp only
        have := hU.hv j hj
        refine ⟨fun q => this.1 ⟨?_, q.2⟩, fun q => this.2 (fun z => q ⟨by omega, z.2⟩)⟩
        have : j ≠ k := fun e => hkT (e ▸ q.2)
        omega
      · simp only
        by_cases e : j = k
        · subst e
          rw [upf_same]
          exact ⟨fun _ => rfl, fun q => absurd ⟨Nat.lt_succ_self _, hkT⟩ q⟩
        · rw [upf_ne _ _ e]
          have := hU.hk j hj
          exact ⟨fun q => this.1 ⟨by omega, q.2⟩, fun q => this.2 (fun z => q ⟨by omega, z.2⟩)⟩
  have hkE : k = n := by omega
  rw [hkE] at hU h117
  obtain ⟨hR2, hL2, hby⟩ := hRI.step hLK hin hl1 hl2 hl3 (u2 := u2) (v2 := v2) (lack2 := l2) (fun r hr => ⟨fun q => by
      rw [← hDD]; exact (hU.hu r hr).1 (q.is.imp id (fun ⟨b, h1, h2⟩ => ⟨b, (hRI.tn b h1).1, h1, h2⟩)), fun q => (hU.hu r hr).2 (fun z => q ⟨z.imp id (fun ⟨b, _, h1, h2⟩ => ⟨b, h1, h2⟩)⟩)⟩)
    (fun j hj => ⟨fun q => by rw [← hDD]; exact (hU.hv j hj).1 ⟨hj, q⟩, fun q => (hU.hv j hj).2 (fun z => q z.2)⟩) (fun j hj q => by rw [← hDD]; exact (hU.hk j hj).1 ⟨hj, q⟩)
  have hu2i : u2 i ≤ 1000000 := by
    have := (hU.hu i hin).1 (.inl rfl)
    omega
  have hux2 : UX n i u2 := ⟨fun r h1 h2 => by
    have := (hU.hu r h2).2 (by
      rintro (e | ⟨b, _, hb, e⟩)
      · omega
      · obtain ⟨r', q1, q2⟩ := hRI.row hb
        rw [e] at q2; omega)
    rw [this]; exact hux.b r h1 h2⟩
  simp [h0, h3, h4, h5, h6, h30, h31, h7, h8, h9, h10, h13, h16, h116, h117, hl1, hl1I, hbv, nbo, hbl, hbb, hbs, barr_set, splice_one, iarr_dr hl1, tB_snoc]
  refine ⟨by omega, ?_⟩
  by_cases ho : own l < 0
  rotate_left
  · obtain ⟨r, hri, hor⟩ : ∃ r : Nat, r < i ∧ own l = r := by
      rcases hRI.si.ow l hl1 with h | h
      · rw [h] at ho; omega
      · exact h
    have hon : own l ≠ -1 := by rw [hor]; omega
    have hR3 := hR2.push hl1 hl2 hon hby
    have hTl : (T ++ [l]).length ≤ n := by
      have := nodup_sub_len (T ++ [l]) (List.range n) hR3.nd (fun x hx => List.mem_range.2 (hR3.tn x hx).1)
      simpa using this
    have hr0 : ¬ (r : Int) < 0 := by omega
    simp [h0, h3, h4, h5, h6, h30, h31, h7, h8, h9, h10, h13, h16, h116, h117, hor, hr0, hl1, hl1I, hbv, nbo, hbl, hbb, hbs, iarr_dr hl1]
    refine turnA_self ⟨⟨T ++ [l], T, true, u2, v2, l2, B2, r, l⟩, ?_, hR3, hL2.push l, .inr ⟨rfl, l, rfl, rfl, hor⟩, hu2i, hux2, by simp only; omega, by simp [h0, h3, h4, h5, h6, h30, h31, h7, h8, h9, h10, h13, h16, h116, h117]⟩
    simp only [List.length_append, List.length_singleton] at hTl ⊢
    omega
  have hol : own l = -1 := by
    rcases hRI.si.ow l hl1 with h | ⟨r, _, h⟩
    · exact h
    · rw [h] at ho; omega
  have hA0 := AG.start hR2 hl1 hol hby
  have hB2 := hR2.si.bounds hin cb
  have hlo2 := hR2.lowI hin cb
  simp [h0, h3, h4, h5, h6, h30, h31, h7, h8, h9, h10, h13, h16, h116, h117, ho]
  refine awp_loop_g (γ := WZ) (fun y t h => (WS n c i u2 v2 own T B2 y.m y.j y.g) ∧ t 0 = .sl n (partsC C) ∧ t 3 = .osl bu 0 n 1 ∧ t 4 = .osl bv 0 n 1 ∧ t 5 = .int .i64 n ∧ t 6 = .osl bo 0 n 1 ∧ t 30 = .int .i64 n ∧ t 31 = .int .i64 i ∧ t 7 = .int .i64 i ∧ t 9 = .osl bb 0 n 1 ∧ t 18 = .int .i64 y.j ∧ h = (((((AHeap.empty.upd bu (.cells (iarr n u2))).upd bv (.cells (iarr n v2))).upd bo (.cells (iarr n y.g))).upd bl (.cells (iarr n l2))).upd bb (.cells (iarr n B2))).upd bs (.cells (barr n (tB (T ++ [l]))))) (fun y => y.m) (⟨T.length + 1, l, own⟩) (turnA_self ⟨⟨.inl ⟨l, T, rfl, rfl, hA0⟩⟩, by simp [h0, h3, h4, h5, h6, h30, h31, h7, h8, h9, h10, h13, h16, h116, h117]⟩) ?_
  rintro y t hy ⟨hW, h0, h3, h4, h5, h6, h30, h31, h7, h9, h18, ey⟩
  clear hA0
  obtain ⟨m, j, g⟩ := y
  simp only at h0 h3 h4 h5 h6 h30 h31 h7 h9 h18 hW ey
  rw [ey]
  clear ey
  rcases hW.is with ⟨j', pre, rfl, rfl, hAG⟩ | ⟨rfl, hS2⟩
  rotate_left
  · simp [h0, h3, h4, h5, h6, h30, h31, h7, h9, h18]
    refine turnA_to (((AHeap.empty.upd bu (.cells (iarr n u2))).upd bv (.cells (iarr n v2))).upd bo (.cells (iarr n g))) ?_ ⟨⟨i + 1, u2, v2, g⟩, by simp only; omega, by simp only; omega, hS2, ⟨hB2.1, fun r hr => ?_⟩, by simp [h0, h3, h4, h5, h6, h30, h31, h7, h9, h18, hwi]⟩
    · refine Drop.new (Drop.new (Drop.new (Drop.refl _) ?_) ?_) ?_
      · simp [AHeap.upd, hbl, AHeap.empty]
      · simp [AHeap.upd, hbb, hbl, AHeap.empty]
      · simp [AHeap.upd, hbs, hbb, hbl, AHeap.empty]
    · simp only
      by_cases e : r = i
      · rw [e]; exact ⟨hlo2, hu2i⟩
      · by_cases e2 : r < i
        · exact hB2.2 r e2
        · exact hux2.b r (by omega) hr
  have hjn := hAG.jn
  have hjnI : (j' : Int) < (n : Int) := by omega
  have hj0 : (0 : Int) ≤ (j' : Int) := by omega
  simp [h0, h3, h4, h5, h6, h30, h31, h7, h9, h18, hjn, hjnI, hbv, nbo, hbl, hbb, hbs, iarr_dr hjn]
  have hset : ∀ x : Int, (iarr n g).set j' (.int .i64 x) = iarr n (upf g j' x) := fun x => iarr_set
  by_cases hbj : 0 ≤ B2 j'
  · obtain ⟨b, hb⟩ : ∃ b : Nat, B2 j' = b := ⟨(B2 j').toNat, by omega⟩
    obtain ⟨P1, hP1, hAG2, hbn, r, hri, hgb⟩ := hAG.turn hR2 hb
    have hbnI : (b : Int) < (n : Int) := by omega
    have hb0 : (0 : Int) ≤ (b : Int) := by omega
    simp [h0, h3, h4, h5, h6, h30, h31, h7, h9, h18, hb, hb0, hjn, hjnI, hbn, hbnI, hbv, nbo, hbl, hbb, hbs, iarr_dr hjn, iarr_dr hbn, splice_one, iarr_set]
    exact ⟨by omega, turnA_self ⟨⟨P1.length + 1, b, upf g j' (g b)⟩, by simp only; omega, ⟨.inl ⟨b, P1, rfl, rfl, hAG2⟩⟩, by simp [h0, h3, h4, h5, h6, h30, h31, h7, h9, h18]⟩⟩
  · have hb : B2 j' = -1 := by
      rcases hAG.by' with ⟨q, _⟩ | ⟨b, r, _, q, _⟩
      · exact q
      · rw [q] at hbj; omega
    simp [h0, h3, h4, h5, h6, h30, h31, h7, h9, h18, hb, hjn, hjnI, hbv, nbo, hbl, hbb, hbs, iarr_dr hjn, splice_one, iarr_set]
    exact ⟨by omega, turnA_self ⟨⟨0, -1, upf g j' i⟩, by simp only; omega, ⟨.inr ⟨rfl, hAG.done hR2 hb⟩⟩, by simp [h0, h3, h4, h5, h6, h30, h31, h7, h9, h18]⟩⟩
end Go.Proofs

end
