/-
  Texts: FlP5 FlP6 FlT0 FlT1 FlT2 FlT3.
-/
import Derived.Test.YtpnikgfpcgaboaaFlR4
import Derived.Test.YtpnikgfpcgaboaaAhXg
set_option linter.unusedSimpArgs false
set_option linter.unusedVariables false
set_option linter.unusedSectionVars false
section
/-
  Flow: ways that are taken out of a flow of ones (plain).
-/
namespace Go.Proofs
open Go Go.AH

def fromN (l : List RArc) (k : Nat) : Nat := (arcAt l k).a.toNat
def toN (l : List RArc) (k : Nat) : Nat := (arcAt l k).b.toNat
/-- What the arcs that are used bring out of a place, less what they bring in. -/
def bal (l : List RArc) (U : Nat → Bool) (p : Nat) : Int := sm (fun j => if U j = true then (if fromN l j = p then 1 else 0) - (if toN l j = p then 1 else 0) else 0) l.length
theorem bal_off {l : List RArc} {U : Nat → Bool} {k : Nat} (hk : k < l.length) (hu : U k = true) (p : Nat) : bal l (upf U k false) p = bal l U p - ((if fromN l k = p then 1 else 0) - (if toN l k = p then 1 else 0)) := by
  unfold bal
  rw [sm_upd (g := fun j => if U j = true then (if fromN l j = p then (1 : Int) else 0) - (if toN l j = p then 1 else 0) else 0) (i := k) (x := -((if fromN l k = p then (1 : Int) else 0) - (if toN l k = p then 1 else 0))) hk]
  · omega
  · intro j _ hne
    simp only [upf, hne, if_false]
  · simp only [upf, if_true, hu]
    simp
    omega
theorem bal_pos {l : List RArc} {U : Nat → Bool} {p : Nat} (h : 0 < bal l U p) : ∃ k, k < l.length ∧ U k = true ∧ fromN l k = p := by
  apply Classical.byContradiction
  intro hn
  have : bal l U p ≤ l.length * 0 := by
    unfold bal
    refine sm_le fun j hj => ?_
    by_cases hu : U j = true
    · rw [if_pos hu, if_neg (fun e => hn ⟨j, hj, hu, e⟩)]
      split <;> omega
    · rw [if_neg hu]; omega
  omega
def cntU (U : Nat → Bool) (m : Nat) : Int := sm (fun j => if U j = true then 1 else 0) m
theorem cntU_off {U : Nat → Bool} {k m : Nat} (hk : k < m) (hu : U k = true) : cntU (upf U k false) m = cntU U m - 1 := by
  unfold cntU
  rw [sm_upd (g := fun j => if U j = true then (1 : Int) else 0) (i := k) (x := -1) hk]
  · omega
  · intro j _ hne
    simp only [upf, hne, if_false]
  · simp only [upf, if_true, hu]
    simp
theorem cntU_nonneg (U : Nat → Bool) (m : Nat) : 0 ≤ cntU U m := sm_nonneg fun j _ => by split <;> omega

/-- A way from a place, that visits no place twice, nor one of those that were seen. -/
def chain (l : List RArc) : Nat → List Nat → List Nat → Nat → Prop
  | at_, _, [], e => at_ = e
  | at_, seen, k :: r, e => k < l.length ∧ fromN l k = at_ ∧ toN l k ∉ seen ∧ chain l (toN l k) (seen ++ [toN l k]) r e
variable {l : List RArc}
theorem chain_snoc : ∀ {out : List Nat} {a e k : Nat} {seen : List Nat}, chain l a seen out e → k < l.length → fromN l k = e → toN l k ∉ seen ++ out.map (toN l) → chain l a seen (out ++ [k]) (toN l k)
  | [], a, e, k, seen, h, h1, h2, h3 => ⟨h1, by rw [h2]; exact h.symm, by simpa using h3, rfl⟩
  | x :: r, a, e, k, seen, h, h1, h2, h3 => by
    obtain ⟨c1, c2, c3, c4⟩ := h
    exact ⟨c1, c2, c3, chain_snoc c4 h1 h2 (by simpa using h3)⟩
theorem chain_take : ∀ {out : List Nat} {a e i : Nat} {seen : List Nat}, chain l a seen out e → i ≤ out.length → chain l a seen (out.take i) ((a :: out.map (toN l)).getD i 0)
  | out, a, e, 0, seen, _, _ => by simp [chain]
  | [], a, e, i + 1, seen, _, h => by simp at h
  | x :: r, a, e, i + 1, seen, h, hi => by
    obtain ⟨c1, c2, c3, c4⟩ := h
    have := chain_take (i := i) c4 (by simpa using hi)
    exact ⟨c1, c2, c3, by simpa using this⟩
theorem chain_end : ∀ {out : List Nat} {a e : Nat} {seen : List Nat}, chain l a seen out e → (a :: out.map (toN l)).getD out.length 0 = e
  | [], a, e, seen, h => by
    show a = e
    exact h
  | x :: r, a, e, seen, h => by
    obtain ⟨c1, c2, c3, c4⟩ := h
    have := chain_end c4
    simpa using this
/-- What a walk keeps: U0 at first, U now. -/
structure Walk (l : List RArc) (s t : Nat) (v : Int) (U0 U : Nat → Bool) (out : List Nat) (e : Nat) : Prop where
  ch : chain l s [s] out e
  off : ∀ k ∈ out, U0 k = true ∧ U k = false
  nd : out.Nodup
  sub : ∀ k, U k = true → U0 k = true
  bl : ∀ p, bal l U p = ((v - 1) * ((if s = p then 1 else 0) - (if t = p then 1 else 0))) + ((if e = p then 1 else 0) - (if t = p then 1 else 0))
theorem Walk.start {s t : Nat} {v : Int} {U : Nat → Bool} (hb : ∀ p, bal l U p = v * ((if s = p then 1 else 0) - (if t = p then 1 else 0))) : Walk l s t v U U [] s where
  ch := rfl
  off := fun k hk => by cases hk
  nd := by simp
  sub := fun _ h => h
  bl := fun p => by rw [hb p, Int.sub_mul]; omega
theorem Walk.next {s t e : Nat} {v : Int} {U0 U : Nat → Bool} {out : List Nat} (w : Walk l s t v U0 U out e) (hv : 1 ≤ v) (het : e ≠ t) (hst : s ≠ t) : ∃ k, k < l.length ∧ U k = true ∧ fromN l k = e := by
  refine bal_pos ?_
  have h1 : (if t = e then (1 : Int) else 0) = 0 := if_neg (Ne.symm het)
  have h2 : (if e = e then (1 : Int) else 0) = 1 := if_pos rfl
  rw [w.bl e, h1, h2]
  by_cases h : s = e
  · rw [if_pos h]; omega
  · rw [if_neg h]; omega
theorem Walk.balStep {s t e k : Nat} {v : Int} {U0 U : Nat → Bool} {out : List Nat} (w : Walk l s t v U0 U out e) (hk : k < l.length) (hu : U k = true) (hf : fromN l k = e) (p : Nat) :
    bal l (upf U k false) p = ((v - 1) * ((if s = p then 1 else 0) - (if t = p then 1 else 0))) + ((if toN l k = p then 1 else 0) - (if t = p then 1 else 0)) := by
  rw [bal_off hk hu, w.bl p, hf]; omega
theorem Walk.snoc {s t e k : Nat} {v : Int} {U0 U : Nat → Bool} {out : List Nat} (w : Walk l s t v U0 U out e) (hk : k < l.length) (hu : U k = true) (hf : fromN l k = e) (hn : toN l k ∉ s :: out.map (toN l)) : Walk l s t v U0 (upf U k false) (out ++ [k]) (toN l k) where
  ch := chain_snoc w.ch hk hf (by simpa using hn)
  off := fun j hj => by
    rcases List.mem_append.1 hj with h | h
    · obtain ⟨h1, h2⟩ := w.off j h
      refine ⟨h1, ?_⟩
      unfold upf; split
      · rfl
      · exact h2
    · simp at h; subst h
      exact ⟨w.sub j hu, by unfold upf; rw [if_pos rfl]⟩
  nd := by
    rw [List.nodup_append]
    exact ⟨w.nd, by simp, fun a ha b hb => by simp at hb; subst hb; rintro rfl; have := (w.off a ha).2; rw [hu] at this; cases this⟩
  sub := fun j h => by
    unfold upf at h
    split at h
    · cases h
    · exact w.sub j h
  bl := fun p => w.balStep hk hu hf p
theorem Walk.cut {s t e k i : Nat} {v : Int} {U0 U : Nat → Bool} {out : List Nat} (w : Walk l s t v U0 U out e) (hk : k < l.length) (hu : U k = true) (hf : fromN l k = e) (hi : i ≤ out.length) (he : (s :: out.map (toN l)).getD i 0 = toN l k) : Walk l s t v U0 (upf U k false) (out.take i) (toN l k) where
  ch := by rw [← he]; exact chain_take w.ch hi
  off := fun j hj => by
    obtain ⟨h1, h2⟩ := w.off j (List.mem_of_mem_take hj)
    refine ⟨h1, ?_⟩
    unfold upf; split
    · rfl
    · exact h2
  nd := w.nd.sublist (List.take_sublist _ _)
  sub := fun j h => by
    unfold upf at h
    split at h
    · cases h
    · exact w.sub j h
  bl := fun p => w.balStep hk hu hf p
theorem Walk.done {s t : Nat} {v : Int} {U0 U : Nat → Bool} {out : List Nat} (w : Walk l s t v U0 U out t) (p : Nat) : bal l U p = (v - 1) * ((if s = p then 1 else 0) - (if t = p then 1 else 0)) := by
  rw [w.bl p]; omega
end Go.Proofs

end

section
/-
  Flow: whether ways are apart (plain).
-/
namespace Go.Proofs
open Go Go.AH

def badA (l : List RArc) (U : Nat → Bool) (e : Nat) (seen : List Nat) (a : Int) : Prop :=
  a < 0 ∨ (l.length : Int) ≤ a ∨ U a.toNat = true ∨ fromN l a.toNat ≠ e ∨ toN l a.toNat ∈ seen
instance (l : List RArc) (U : Nat → Bool) (e : Nat) (seen : List Nat) (a : Int) : Decidable (badA l U e seen a) := by unfold badA; infer_instance
def wayR (l : List RArc) : (Nat → Bool) → Nat → List Nat → List Int → Option ((Nat → Bool) × Nat)
  | U, e, _, [] => some (U, e)
  | U, e, seen, a :: r => if badA l U e seen a then none else wayR l (upf U a.toNat true) (toN l a.toNat) (seen ++ [toN l a.toNat]) r
def runR (l : List RArc) (s t : Nat) : (Nat → Bool) → List (List Int) → Option (Nat → Bool)
  | U, [] => some U
  | U, w :: r => match wayR l U s [s] w with
    | none => none
    | some (V, e) => if e = t then runR l s t V r else none
def apartR (l : List RArc) (s t : Nat) (ws : List (List Int)) : Bool := (runR l s t (fun _ => false) ws).isSome
variable {l : List RArc} {s t : Nat}
theorem runR_snoc : ∀ {ws : List (List Int)} {U : Nat → Bool} {w : List Int}, runR l s t U (ws ++ [w]) = (runR l s t U ws).bind fun V => runR l s t V [w]
  | [], _, _ => rfl
  | x :: r, U, w => by
    simp only [List.cons_append, runR]
    cases h : wayR l U s [s] x with
    | none => rfl
    | some p =>
      obtain ⟨V, e⟩ := p
      simp only
      by_cases q : e = t
      · rw [if_pos q, if_pos q]
        exact runR_snoc
      · rw [if_neg q, if_neg q]; rfl
theorem wayR_chain : ∀ {out : List Nat} {V : Nat → Bool} {a e : Nat} {seen : List Nat}, chain l a seen out e → (∀ k ∈ out, V k = false) → out.Nodup →
    ∃ V', wayR l V a seen (out.map fun x : Nat => (x : Int)) = some (V', e) ∧ ∀ k, V' k = true → V k = true ∨ k ∈ out
  | [], V, a, e, seen, h, _, _ => ⟨V, by rw [show a = e from h]; rfl, fun k h => .inl h⟩
  | x :: r, V, a, e, seen, h, h1, h2 => by
    obtain ⟨c1, c2, c3, c4⟩ := h
    have hnd := List.nodup_cons.1 h2
    obtain ⟨V', q1, q2⟩ := wayR_chain (V := upf V x true) c4 (fun k hk => by
      unfold upf
      rw [if_neg (fun q : k = x => hnd.1 (q ▸ hk))]
      exact h1 k (List.mem_cons_of_mem _ hk)) hnd.2
    refine ⟨V', ?_, fun k hk => ?_⟩
    · simp only [List.map_cons, wayR]
      have hb : ¬ badA l V a seen (x : Int) := by
        unfold badA
        simp only [Int.toNat_natCast]
        rintro (q | q | q | q | q)
        · omega
        · omega
        · rw [h1 x (by simp)] at q; cases q
        · exact q c2
        · exact c3 q
      rw [if_neg hb]
      simpa using q1
    · rcases q2 k hk with q | q
      · unfold upf at q
        split at q
        · next e => exact .inr (by simp [e])
        · exact .inl q
      · exact .inr (List.mem_cons_of_mem _ q)
/-- Ways that were taken out so far are apart, and none of their arcs is used still. -/
def Taken (l : List RArc) (s t : Nat) (U : Nat → Bool) (ws : List (List Int)) : Prop := ∃ V, runR l s t (fun _ => false) ws = some V ∧ ∀ k, V k = true → U k = false
theorem Taken.nil {U : Nat → Bool} : Taken l s t U [] := ⟨_, rfl, fun k h => by cases h⟩
theorem Taken.snoc {v : Int} {U U' : Nat → Bool} {ws : List (List Int)} {out : List Nat} (T : Taken l s t U ws) (w : Walk l s t v U U' out t) : Taken l s t U' (ws ++ [out.map fun x : Nat => (x : Int)]) := by
  obtain ⟨V, h1, h2⟩ := T
  have hf : ∀ k, U k = false → U' k = false := fun k h => by
    cases e : U' k with
    | false => rfl
    | true => rw [w.sub k e] at h; cases h
  obtain ⟨V', q1, q2⟩ := wayR_chain (V := V) w.ch (fun k hk => by
    cases e : V k with
    | false => rfl
    | true => have := h2 k e; rw [(w.off k hk).1] at this; cases this) w.nd
  refine ⟨V', ?_, fun k hk => ?_⟩
  · rw [runR_snoc, h1]
    simp only [Option.bind_some, runR, q1, if_true]
  · rcases q2 k hk with q | q
    · exact hf k (h2 k q)
    · exact (w.off k q).2
theorem Taken.apart {U : Nat → Bool} {ws : List (List Int)} (T : Taken l s t U ws) : apartR l s t ws = true := by
  obtain ⟨V, h, _⟩ := T
  unfold apartR
  rw [h]; rfl

/-! ### Arcs that carry one each -/
def onesL (l : List RArc) : List RArc := l.map fun x => ⟨x.a, x.b, 1⟩
@[simp] theorem onesL_length {l : List RArc} : (onesL l).length = l.length := by simp [onesL]
theorem onesL_at {k : Nat} (hk : k < l.length) : arcAt (onesL l) k = ⟨(arcAt l k).a, (arcAt l k).b, 1⟩ := by
  simp [arcAt, onesL, List.getD_eq_getElem?_getD, hk]
theorem ones_ok {P : Nat} (O : ArcsOk P l fun _ => 0) : ArcsOk P (onesL l) fun _ => 0 where
  P2 := O.P2
  P24 := O.P24
  len := by simpa using O.len
  ok := fun x hx => by
    obtain ⟨y, hy, rfl⟩ := List.mem_map.1 hx
    have := arcOk_iff.1 (O.ok y hy)
    exact arcOk_iff.2 (by simp only; omega)
  bk := fun x _ => by omega
theorem ones_C {P k : Nat} (hk : k < l.length) : (srOf P (onesL l) fun _ => 0).C k = 1 := by
  have := onesL_at hk
  unfold arcAt at this
  simp only [srOf, this]
theorem ones_left {P : Nat} {v : Int} {left : Nat → Int} (F : Fl (srOf P (onesL l) fun _ => 0) s t left v) {k : Nat} (hk : k < l.length) : left (2 * k) = 0 ∧ fl (srOf P (onesL l) fun _ => 0) left k = 1 ∨ left (2 * k) = 1 ∧ fl (srOf P (onesL l) fun _ => 0) left k = 0 := by
  have hm : (srOf P (onesL l) fun _ => 0).m = l.length := by simp [srOf]
  have hs := F.sum k (by rw [hm]; exact hk)
  have h1 := F.pos (2 * k) (by rw [hm]; omega)
  have h2 := F.pos (2 * k + 1) (by rw [hm]; omega)
  rw [ones_C hk, show (srOf P (onesL l) fun _ => 0).D k = 0 from rfl] at hs
  unfold fl
  rw [ones_C hk]
  omega
theorem ones_bal {P : Nat} {v : Int} {left : Nat → Int} (F : Fl (srOf P (onesL l) fun _ => 0) s t left v) (p : Nat) : bal l (fun k => decide (left (2 * k) = 0)) p = v * ((if s = p then 1 else 0) - (if t = p then 1 else 0)) := by
  have he := F.ex p
  have hm : (srOf P (onesL l) fun _ => 0).m = l.length := by simp [srOf]
  unfold exc at he
  rw [hm] at he
  have e1 : bal l (fun k => decide (left (2 * k) = 0)) p = (if s = p then v else 0) - (if t = p then v else 0) := by
    rw [← he]
    unfold bal
    refine sm_congr fun j hj => ?_
    have hA : (srOf P (onesL l) fun _ => 0).A j = fromN l j := by
      have := onesL_at hj
      unfold arcAt at this
      simp only [srOf, this, fromN, arcAt]
    have hB : (srOf P (onesL l) fun _ => 0).B j = toN l j := by
      have := onesL_at hj
      unfold arcAt at this
      simp only [srOf, this, toN, arcAt]
    rw [hA, hB]
    rcases ones_left F hj with ⟨q1, q2⟩ | ⟨q1, q2⟩
    · rw [q2, if_pos (by simp [q1])]
    · rw [q2, if_neg (by simp [q1])]
      split <;> split <;> rfl
  rw [e1, Int.mul_sub]
  split <;> split <;> simp
/-- The arcs that lead out of a set. -/
def outA (l : List RArc) (In : Nat → Bool) (n : Nat) : List Nat := (List.range n).filter fun k => In (fromN l k) && !In (toN l k)
theorem outA_succ {In : Nat → Bool} {n : Nat} : outA l In (n + 1) = outA l In n ++ (if (In (fromN l n) && !In (toN l n)) = true then [n] else []) := by
  unfold outA
  rw [List.range_succ, List.filter_append]
  simp only [List.filter_cons, List.filter_nil]
theorem outA_cap {P : Nat} {In : Nat → Bool} : ∀ {n : Nat}, n ≤ l.length → ((outA l In n).length : Int) = sm (fun j => (if (In ((srOf P (onesL l) fun _ => 0).A j) && !In ((srOf P (onesL l) fun _ => 0).B j)) = true then (srOf P (onesL l) fun _ => 0).C j else 0) + (if (In ((srOf P (onesL l) fun _ => 0).B j) && !In ((srOf P (onesL l) fun _ => 0).A j)) = true then (srOf P (onesL l) fun _ => 0).D j else 0)) n
  | 0, _ => rfl
  | n + 1, h => by
    have ih := outA_cap (P := P) (In := In) (n := n) (by omega)
    have hj : n < l.length := by omega
    have hA : (srOf P (onesL l) fun _ => 0).A n = fromN l n := by
      have := onesL_at hj
      unfold arcAt at this
      simp only [srOf, this, fromN, arcAt]
    have hB : (srOf P (onesL l) fun _ => 0).B n = toN l n := by
      have := onesL_at hj
      unfold arcAt at this
      simp only [srOf, this, toN, arcAt]
    have hD : (srOf P (onesL l) fun _ => 0).D n = 0 := rfl
    rw [outA_succ, sm]
    rw [← ih, hA, hB, ones_C hj, hD]
    by_cases q : (In (fromN l n) && !In (toN l n)) = true
    · rw [if_pos q, if_pos q]; simp
    · rw [if_neg q, if_neg q]; simp
theorem outA_lt {In : Nat → Bool} {n k : Nat} (h : k ∈ outA l In n) : k < n := by
  have := (List.mem_filter.1 h).1
  simpa using this
theorem outA_sorted {In : Nat → Bool} {n : Nat} : (outA l In n).Pairwise (· < ·) := List.Pairwise.filter _ List.pairwise_lt_range
end Go.Proofs

end

section
/-
  Rows that are cut short: what is behind is forgotten.
-/
namespace Go.AH
open Go
def truncA (b m : Nat) (K : AF → AHeap → Prop) (t : AF) (h : AHeap) : Prop := ∃ cs, h b = some (.cells cs) ∧ K t (h.upd b (.cells (cs.take m)))
section
variable {w : World} {h hf : AHeap} {a : Act} {t : AF} {N B b m : Nat} {cs : List AV}
theorem trunc_ext (hb : h b = some (.cells cs)) : Ext w (h.un hf) w ((h.upd b (.cells (cs.take m))).un hf) := by
  refine ⟨Nat.le_refl _, fun x _ hx => ⟨?_, rfl⟩, fun x c e fr hc => ⟨c, fr, hc, rfl⟩, rfl, rfl, rfl⟩
  rw [AHeap.un_upd]
  have hne : x ≠ b := fun e => by rw [e, AHeap.un_some hb] at hx; cases hx
  rw [AHeap.upd_ne hne]; exact hx
theorem Good.trunc (G : Good w h hf a t N B) (hb : h b = some (.cells cs)) : Good w (h.upd b (.cells (cs.take m))) hf a t N B := by
  have x := trunc_ext (w := w) (hf := hf) (m := m) hb
  refine ⟨G.disj.upd (G.disj.none_right hb), ?_, fun i => (G.frame i).ext x, G.size, G.defers.ext x, G.base⟩
  refine G.rel.step x fun i c e => ?_
  rw [AHeap.un_upd] at e
  by_cases hi : i = b
  · subst hi
    rw [AHeap.upd_same] at e
    cases e
    obtain ⟨vs, ty, h1, h2, h3, h4⟩ := G.rel i _ (AHeap.un_some hb)
    refine .inr ⟨vs, ty, h1, by simp; omega, fun y hy => h3 y (List.mem_of_mem_take hy), fun j hj hv => ?_⟩
    simp at hj
    have := (h4 j (by omega) hv).ext x
    simpa using this
  · rw [AHeap.upd_ne hi] at e
    exact .inl ⟨e, rfl⟩
theorem To.trunc {K : AF → AHeap → Prop} {a' : Act} {w' : World} (T : To w h hf N B (truncA b m K) a' w') : To w h hf N B K a' w' := by
  obtain ⟨t', h', ⟨cs, hb, q⟩, G, x⟩ := T
  exact ⟨t', _, q, G.trunc hb, x.trans ⟨trunc_ext hb, fun _ _ => rfl⟩⟩
theorem AWP.post_trunc {P : Program} {ro : Option Nat} {c : Code} {Q : Exit → AF → AHeap → Prop} (b m : Nat) (x : AWP P ro N c (fun e => truncA b m (Q e)) t h) : AWP P ro N c Q t h :=
  fun hf B w a G => wpIn_mono (x hf B w a G) fun _ _ _ T => T.trunc
end
end Go.AH

end

section
/-
  Flow: Index and Clone.
-/
namespace Go.Proofs
open Go Go.AH
set_option maxRecDepth 10000
set_option maxHeartbeats 4000000

theorem l_Index (l : List Nat) (hl : l.length ≤ 1000000) (x : Nat) : Pure Try.prog 78 [.sl l.length (natC l), .int .i64 x] (.int .i64 (if x ∈ l then (l.idxOf x : Int) else -1)) := by
  refine pure_of (acalls_of Try.func78 rfl Try.call78 (by kernel_rfl) (by show _ ≤ (19 : Nat); simp) ?_)
  obtain ⟨r, hr⟩ : ∃ r, r = (if x ∈ l then (l.idxOf x : Int) else -1) := ⟨_, rfl⟩
  rw [← hr]
  simp
  refine awp_loop_g (γ := Nat) (fun i t h => (i ≤ l.length) ∧ (x ∉ l.take i) ∧ t 0 = .sl l.length (natC l) ∧ t 1 = .int .i64 x ∧ t 7 = .int .i64 l.length ∧ t 8 = .int .i64 i ∧ h = AHeap.empty) (fun i => l.length - i) (0) (turnA_self (by simp)) ?_
  rintro i t h ⟨hi, hc, h0, h1, h7, h8, rfl⟩
  by_cases hlt : i < l.length
  · have hltI : (i : Int) < (l.length : Int) := by omega
    have hwi : IntKind.i64.wrap ((i : Int) + 1) = (i : Int) + 1 := wrap_i64 (by omega) (by omega)
    obtain ⟨y, hy⟩ : ∃ y, y = l[i] := ⟨_, rfl⟩
    have hy' : l[i]? = some y := by rw [hy]; exact List.getElem?_eq_getElem hlt
    simp [h0, h1, h7, h8, hlt, hltI, natC_at hy']
    by_cases e : x = y
    · have eI : (x : Int) = (y : Int) := by omega
      simp [h0, h1, h7, h8, e]
      refine finA_drop ?_
      have hx : x ∈ l := e ▸ List.mem_of_getElem? hy'
      have hix : l.idxOf x = i := by
        have h1 : l.idxOf x < l.length := List.idxOf_lt_length_of_mem hx
        have h2 : l[l.idxOf x] = x := List.getElem_idxOf h1
        rcases Nat.lt_trichotomy (l.idxOf x) i with q | q | q
        · exact absurd (h2 ▸ List.mem_take_iff_getElem.2 ⟨l.idxOf x, by omega, rfl⟩) hc
        · exact q
        · have := List.not_of_lt_findIdx (p := (· == x)) (xs := l) (i := i) q
          simp [← hy, e] at this
      rw [hr, if_pos hx, hix]
    · have eI : ¬ (x : Int) = (y : Int) := by omega
      simp [h0, h1, h7, h8, e, eI]
      refine turnA_self ⟨i + 1, by omega, by omega, ?_, by simp [h0, h1, h7, h8, hwi]⟩
      rw [List.take_succ_eq_append_getElem hlt]
      intro h
      rcases List.mem_append.1 h with h | h
      · exact hc h
      · simp only [List.mem_singleton] at h
        exact e (by rw [hy, h])
  · obtain rfl : i = l.length := by omega
    rw [List.take_length] at hc
    simp [h0, h1, h7, h8]
    refine finA_drop ?_
    rw [hr, if_neg hc]
theorem w_cloneO (o : Option Nat) (out : List Nat) (hl : out.length < 1000000) (H : AHeap) (ho : o = none → out = []) (hb : ∀ b, o = some b → H b = some (.cells (natC out))) :
    ACalls Try.prog 69 [ownV o out.length 1] H fun r h' => ∃ o', r = ownV o' out.length 1 ∧ h' = H.updO o' (natC out) ∧ FreshO H o' ∧ (o' = none → out = []) := by
  obtain ⟨R, hR⟩ : ∃ R : AV → AHeap → Prop, R = fun r h' => ∃ o', r = ownV o' out.length 1 ∧ h' = H.updO o' (natC out) ∧ FreshO H o' ∧ (o' = none → out = []) := ⟨_, rfl⟩
  have hfin : ∀ o', FreshO H o' → (o' = none → out = []) → R (ownV o' out.length 1) (H.updO o' (natC out)) := fun o' h1 h2 => by rw [hR]; exact ⟨o', rfl, rfl, h1, h2⟩
  rw [← hR]
  refine acalls_of Try.func69 rfl Try.call69 (by kernel_rfl) (by show _ ≤ (8 : Nat); simp) ?_
  cases o with
  | none =>
    have h := hfin none trivial (fun _ => ho rfl)
    simp
    exact finA_self h
  | some b =>
    have eb := hb b rfl
    have db : ∀ off, cellsAt H b off = some ((natC out).drop off) := fun off => cellsAt_eq eb
    simp [db]
    intro b5 hb5
    have n5 := ne_fresh (db 0) hb5
    simp [n5, db, hl]
    have hdel : H.del b5 = H := by
      funext x
      unfold AHeap.del
      split
      · next e => rw [e]; exact (by simpa [Fresh] using hb5 : H b5 = none).symm
      · rfl
    rw [hdel, List.take_of_length_le (by simp)]
    refine ⟨by omega, fun b' hb' => ?_⟩
    have h := hfin (some b') hb' (fun e => nomatch e)
    simp
    exact finA_self h
end Go.Proofs

end

section
/-
  Flow: one way is taken out.
-/
namespace Go.Proofs
open Go Go.AH
set_option maxRecDepth 10000
set_option maxHeartbeats 4000000

def barr (n : Nat) (U : Nat → Bool) : List AV := (List.range n).map fun i => AV.bool (U i)
@[simp] theorem barr_length {n : Nat} {U : Nat → Bool} : (barr n U).length = n := by simp [barr]
theorem barr_get {n k : Nat} {U : Nat → Bool} (hk : k < n) : (barr n U)[k]? = some (.bool (U k)) := by simp [barr, hk]
theorem barr_dr {n k : Nat} {U : Nat → Bool} (hk : k < n) : (barr n U).drop k = .bool (U k) :: (barr n U).drop (k + 1) := drop_of_get (barr_get hk)
theorem barr_set {n k : Nat} {U : Nat → Bool} {x : Bool} : (barr n U).set k (.bool x) = barr n (upf U k x) := by
  refine List.ext_getElem (by simp) fun i h1 h2 => ?_
  simp only [barr, List.getElem_set, List.getElem_map, List.getElem_range, upf]
  by_cases e : k = i
  · rw [if_pos e, if_pos e.symm]
  · rw [if_neg e, if_neg (fun q => e q.symm)]
theorem chain_lt {l : List RArc} : ∀ {out : List Nat} {a e : Nat} {seen : List Nat}, chain l a seen out e → ∀ k ∈ out, k < l.length
  | [], _, _, _, _, _, h => nomatch h
  | x :: r, _, _, _, h, k, hk => by
    rcases List.mem_cons.1 hk with e | e
    · subst e; exact h.1
    · exact chain_lt h.2.2.2 k e
theorem drop_way1 {H : AHeap} {bu b4 bp b13 : Nat} {c0 c1 c2 c3 c5 : Chunk} (f : H b13 = none) (n1 : b13 ≠ bu) (n2 : b13 ≠ b4) (n3 : b13 ≠ bp) :
    Drop (((((H.upd bu c0).upd b4 c1).upd bp c2).upd b13 c3).upd bp c5) (((H.upd bu c0).upd b4 c1).upd bp c5) := by
  intro y
  simp only [AHeap.upd]
  grind
theorem drop_way2 {H : AHeap} {bu b4 bp b13 b : Nat} {c0 c1 c2 c3 c4 c5 : Chunk} (f : H b13 = none) (n1 : b13 ≠ bu) (n2 : b13 ≠ b4) (n3 : b13 ≠ bp) (n4 : b13 ≠ b) (n5 : b ≠ bp) :
    Drop ((((((H.upd bu c0).upd b4 c1).upd bp c2).upd b13 c3).upd b c4).upd bp c5) ((((H.upd bu c0).upd b4 c1).upd bp c5).upd b c4) := by
  intro y
  simp only [AHeap.upd]
  grind
theorem heap_way {H : AHeap} {bu b4 bp b13 c1 c2 c3 : Nat} {o : Option Nat} {cs : List AV} {k0 k1 k2 k3 k4 k5 k6 : Chunk} (f : H bp = none) (n1 : bp ≠ bu) (n2 : bp ≠ b4) (n3 : b13 ≠ bp) (n4 : c1 ≠ bp) (n5 : ¬ o = some bp) (n6 : ¬ o = some c2) (n7 : ¬ o = some c3) :
    (((((((((H.upd bu k0).upd b4 k1).upd bp k2).upd b13 k3).upd c1 k4).updO o cs).del bp).upd c2 k5).upd c3 k6) = ((((((H.upd bu k0).upd b4 k1).upd b13 k3).upd c1 k4).upd c2 k5).upd c3 k6).updO o cs := by
  funext y
  cases o with
  | none =>
    simp only [updO_none, AHeap.upd, AHeap.del]
    grind
  | some b =>
    simp only [updO_some, AHeap.upd, AHeap.del]
    grind
structure WX where
  U : Nat → Bool
  e : Nat
  out : List Nat
  bp : Nat
  o : Option Nat
theorem w_way (P : Nat) (l : List RArc) (O : ArcsOk P l fun _ => 0) (s T : Nat) (hs : s < P) (hT : T < P) (hst : s ≠ T) (v : Int) (hv : 1 ≤ v) (U0 : Nat → Bool) (hbal : ∀ p, bal l U0 p = v * ((if s = p then 1 else 0) - (if T = p then 1 else 0))) (bu : Nat) (H : AHeap) (hu : H bu = none) :
    ACalls Try.prog 59 [netV P l, .int .i64 s, .int .i64 T, .osl bu 0 l.length 1] (H.upd bu (.cells (barr l.length U0))) fun r h' => ∃ U out, r = .sl out.length (natC out) ∧ h' = H.upd bu (.cells (barr l.length U)) ∧ Walk l s T v U0 U out T := by
  obtain ⟨R, hR⟩ : ∃ R : AV → AHeap → Prop, R = fun r h' => ∃ U out, r = .sl out.length (natC out) ∧ h' = H.upd bu (.cells (barr l.length U)) ∧ Walk l s T v U0 U out T := ⟨_, rfl⟩
  have hfin : ∀ U out, Walk l s T v U0 U out T → R (.sl out.length (natC out)) (H.upd bu (.cells (barr l.length U))) := fun U out h => by rw [hR]; exact ⟨U, out, rfl, rfl, h⟩
  rw [← hR]
  refine acalls_of Try.func59 rfl Try.call59 (by kernel_rfl) (by show _ ≤ (68 : Nat); simp) ?_
  have l200 := O.len
  have P24 := O.P24
  obtain ⟨V, hV⟩ : ∃ V, V = arcsL l := ⟨_, rfl⟩
  have hV1 : V.one = true := by rw [hV]; simp
  have hV2 : V.fit = true := by rw [hV]; simp
  have hV3 : V.cells = [V] := by rw [hV]; simp
  have hV4 : ∀ h, lenA Try.prog h 30 V = some (.int .i64 (l.length : Int)) := fun h => by rw [hV, lenA_arcsL]
  have hV5 : l ≠ [] → V = .sl l.length (arcC l) := fun h => by rw [hV]; exact (ArcsV.l l).sl h
  unfold netV
  rw [← hV]
  simp [hV1, hV2, hV3]
  intro b4 hb4
  simp at hb4
  simp
  refine AWP.scope (awp_sound _ _ _ _ (by kernel_rfl) ?_)
  simp
  intro b10 hb10
  simp at hb10
  simp
  refine awp_loop_g (γ := WX) (fun x t h => (Walk l s T v U0 x.U x.out x.e) ∧ (Fresh H x.bp ∧ ¬ x.bp = bu ∧ ¬ x.bp = b4) ∧ (FreshO H x.o ∧ ¬ x.o = some bu ∧ ¬ x.o = some b4 ∧ ¬ x.o = some x.bp) ∧ (x.o = none → x.out = []) ∧ t 1 = .int .i64 s ∧ t 2 = .int .i64 T ∧ t 3 = .osl bu 0 l.length 1 ∧ t 4 = .ptr b4 0 ∧ t 9 = ownV x.o x.out.length 1 ∧ t 10 = .osl x.bp 0 (x.out.length + 1) 1 ∧ t 11 = .int .i64 x.e ∧ h = (((H.upd bu (.cells (barr l.length x.U))).upd b4 (.cells [.int .i64 P, V])).upd x.bp (.cells (natC (s :: x.out.map (toN l))))).updO x.o (natC x.out)) (fun x => (cntU x.U l.length).toNat) (⟨U0, s, [], b10, none⟩) (turnA_self (by simp [hb4, hb10, Walk.start hbal, natC])) ?_
  rintro x t hx ⟨hW, hbp, hof, hoe, h1, h2, h3, h4, h9, h10, h11, ex⟩
  rw [ex]
  clear ex
  obtain ⟨U, e, out, bp, o⟩ := x
  simp only at h1 h2 h3 h4 h9 h10 h11 hW hbp hof hoe
  obtain ⟨p1, p2, p3⟩ := hbp
  obtain ⟨o1, o2, o3, o4⟩ := hof
  have hlen : out.length ≤ l.length := nodup_lt' l.length out hW.nd (chain_lt hW.ch)
  have p3' : ¬ b4 = bp := fun q => p3 q.symm
  have p2' : ¬ bu = bp := fun q => p2 q.symm
  by_cases hat : e = T
  · have hatI : (e : Int) = (T : Int) := by omega
    subst hat
    simp [h1, h2, h3, h4, h9, h10, h11]
    refine ACalls.mono (w_cloneO o out (by omega) _ hoe ?_) ?_
    · rintro b rfl; simp
    · rintro _ _ ⟨o', rfl, rfl, f1, f2⟩
      have hne : out ≠ [] := fun q => by have := hW.ch; rw [q] at this; exact hst this
      obtain ⟨b', rfl⟩ : ∃ b', o' = some b' := by
        cases o' with
        | none => exact absurd (f2 rfl) hne
        | some b' => exact ⟨b', rfl⟩
      have h := hfin U out hW
      have f0 : Fresh H b' ∧ ¬ b' = bu := by cases o <;> simp at f1 <;> simp [f1]
      have f3 : Fresh (H.upd bu (.cells (barr l.length U))) b' := by simp [f0, show ¬ bu = b' from fun q => f0.2 q.symm]
      simp [h1, h2, h3, h4, h9, h10, h11]
      refine finA_to 2 (H.upd bu (.cells (barr l.length U))) (Drop.new ?_ f3) ?_
      · have d1 : Drop (((H.upd bu (.cells (barr l.length U))).upd b4 (.cells [.int .i64 P, V])).upd bp (.cells (natC (s :: out.map (toN l))))) (H.upd bu (.cells (barr l.length U))) :=
          Drop.new (Drop.new (Drop.refl _) (by simp [hb4])) (by simp [p1, p2, p2'])
        cases o with
        | none => exact d1
        | some b => exact Drop.new d1 (by simp at o1 o2; simp [o1, o2, show ¬ bu = b from fun q => o2 q.symm])
      · rw [frz_osl f3]
        simp
        rw [map_frozen natC_frozen]
        have ht : List.take out.length (natC out) = natC out := List.take_of_length_le (by simp)
        rw [ht]
        exact h
  · have hatI : ¬ (e : Int) = (T : Int) := by omega
    obtain ⟨k0, hk0, hk0u, hk0f⟩ := hW.next hv hat hst
    have hne : l ≠ [] := fun q => by rw [q] at hk0; simp at hk0
    have hVs := hV5 hne
    simp [h1, h2, h3, h4, h9, h10, h11, hatI, hat, o2, o3, o4, p2, p3, p3', hb4, hV1, hV2, hV3, hV4, -lenA]
    refine awp_loop_g (γ := Nat) (fun k t h => (k ≤ l.length) ∧ (∀ j, j < k → ¬ (U j = true ∧ fromN l j = e)) ∧ t 1 = .int .i64 s ∧ t 2 = .int .i64 T ∧ t 3 = .osl bu 0 l.length 1 ∧ t 4 = .ptr b4 0 ∧ t 9 = ownV o out.length 1 ∧ t 10 = .osl bp 0 (out.length + 1) 1 ∧ t 11 = .int .i64 e ∧ t 22 = V ∧ t 23 = .int .i64 l.length ∧ t 24 = .int .i64 k ∧ h = (((H.upd bu (.cells (barr l.length U))).upd b4 (.cells [.int .i64 P, V])).upd bp (.cells (natC (s :: out.map (toN l))))).updO o (natC out)) (fun k => l.length - k) (0) (turnA_self (by simp [h1, h2, h3, h4, h9, h10, h11])) ?_
    rintro k t hy ⟨hk, hno, h1, h2, h3, h4, h9, h10, h11, h22, h23, h24, ey⟩
    rw [ey]
    clear ey
    by_cases hlt : k < l.length
    · have hltI : (k : Int) < (l.length : Int) := by omega
      have hwi : IntKind.i64.wrap ((k : Int) + 1) = (k : Int) + 1 := wrap_i64 (by omega) (by omega)
      have hati := arcC_at hlt
      obtain ⟨x, hx⟩ : ∃ x, x = l[k] := ⟨_, rfl⟩
      rw [← hx] at hati
      have hxo := arcOk_iff.1 (O.ok x (hx ▸ List.getElem_mem hlt))
      have hi3 : 3 ≤ l.length * 3 - k * 3 := by omega
      have hi4 : min 3 (l.length * 3 - k * 3) = 3 := by omega
      have hxa : arcAt l k = x := by rw [hx]; simp [arcAt, List.getD_eq_getElem?_getD, hlt]
      obtain ⟨xa, hxa1⟩ : ∃ xa : Nat, x.a = xa := ⟨x.a.toNat, by omega⟩
      obtain ⟨xb, hxb1⟩ : ∃ xb : Nat, x.b = xb := ⟨x.b.toNat, by omega⟩
      have hfr : fromN l k = xa := by unfold fromN; rw [hxa, hxa1]; rfl
      have hto : toN l k = xb := by unfold toN; rw [hxa, hxb1]; rfl
      simp [h1, h2, h3, h4, h9, h10, h11, h22, h23, h24, hlt, hltI, hVs, hati, hi3, hi4]
      intro b13 hb13
      simp [o2, o3, o4] at hb13
      obtain ⟨q1, q2, q3, q4⟩ : ¬ b13 = b4 ∧ ¬ b13 = bp ∧ ¬ b13 = bu ∧ ¬ o = some b13 := by
        refine ⟨?_, ?_, ?_, ?_⟩
        all_goals simp [hb13]
      have q1' : ¬ b4 = b13 := fun q => q1 q.symm
      have q2' : ¬ bp = b13 := fun q => q2 q.symm
      have q3' : ¬ bu = b13 := fun q => q3 q.symm
      have hskip : ¬ (U k = true ∧ fromN l k = e) → ∀ j, j < k + 1 → ¬ (U j = true ∧ fromN l j = e) := fun q j hj => by
        rcases Nat.lt_or_eq_of_le (Nat.le_of_lt_succ hj) with h | h
        · exact hno j h
        · subst h; exact q
      have hdr : ∀ (U' : Nat → Bool) (c : Chunk), Drop (((((H.upd bu (.cells (barr l.length U'))).upd b4 (.cells [.int .i64 P, V])).upd bp (.cells (natC (s :: out.map (toN l))))).upd b13 c).updO o (natC out)) ((((H.upd bu (.cells (barr l.length U'))).upd b4 (.cells [.int .i64 P, V])).upd bp (.cells (natC (s :: out.map (toN l))))).updO o (natC out)) := fun U' c => by
        have f13 : Fresh H b13 := by cases o <;> simp at hb13 <;> simp [hb13]
        have d : Drop ((((H.upd bu (.cells (barr l.length U'))).upd b4 (.cells [.int .i64 P, V])).upd bp (.cells (natC (s :: out.map (toN l))))).upd b13 c) (((H.upd bu (.cells (barr l.length U'))).upd b4 (.cells [.int .i64 P, V])).upd bp (.cells (natC (s :: out.map (toN l))))) := Drop.new (Drop.refl _) (by simp [f13, q1, q2, q3, q1', q2', q3'])
        cases o with
        | none => exact d
        | some b => exact Drop.both d
      by_cases hu : U k = true
      · by_cases hf : xa = e
        · have hfI : (xa : Int) = (e : Int) := by omega
          simp [h1, h2, h3, h4, h9, h10, h11, h22, h23, h24, q1, q2, q3, q4, q1', q2', q3', o2, o3, o4, p2, p3, p3', p2', hb4, barr_dr hlt, hlt, hltI, hu, hxa1, hxb1, hf, hfI, splice_one, barr_set]
          refine ⟨by omega, ?_⟩
          have hk1 : k < l.length := hlt
          have hWc : ∀ i, i ≤ out.length → (s :: out.map (toN l)).getD i 0 = xb → Walk l s T v U0 (upf U k false) (out.take i) xb := fun i h1 h2 => by
            have := hW.cut hlt hu (hfr.trans hf) h1 (by rw [hto]; exact h2)
            rw [hto] at this; exact this
          have hWs : xb ∉ s :: out.map (toN l) → Walk l s T v U0 (upf U k false) (out ++ [k]) xb := fun h1 => by
            have := hW.snoc hlt hu (hfr.trans hf) (by rw [hto]; exact h1)
            rw [hto] at this; exact this
          have hmu : max (cntU (upf U k false) l.length) 0 < cntU U l.length := by
            have h1 := cntU_off hlt hu
            have h2 := cntU_nonneg (upf U k false) l.length
            omega
          obtain ⟨U', hU'⟩ : ∃ U', U' = upf U k false := ⟨_, rfl⟩
          obtain ⟨pl, hpl⟩ : ∃ pl, pl = s :: out.map (toN l) := ⟨_, rfl⟩
          have hpll : pl.length = out.length + 1 := by rw [hpl]; simp
          have hL := l_Index pl (by omega) xb
          rw [hpll] at hL
          rw [← hpl, ← hU', ← hVs]
          rw [← hU'] at hWc hWs hmu
          rw [← hpl] at hWc hWs
          refine Pure.lend (k := 2) (r := .int .i64 (if xb ∈ pl then (pl.idxOf xb : Int) else -1)) rfl ?_ ?_
          · have e0 : ∀ h2 : AHeap, h2 bp = some (.cells (natC pl)) → ([.osl bp 0 (out.length + 1) 1, .int .i64 xb] : List AV).map (frzF 2 h2 AHeap.empty) = [.sl (out.length + 1) (natC pl), .int .i64 xb] := fun h2 q => by
              have ht : List.take (out.length + 1) (natC pl) = natC pl := List.take_of_length_le (by simp; omega)
              simp only [List.map_cons, List.map_nil]
              rw [frz_osl (by simp), cellsAt_eq q]
              simp [hpll]
              rw [map_frozen natC_frozen]
              exact ht
            rw [e0]
            · exact hL
            · cases o with
              | none => simp [AHeap.upd, q2']
              | some b => simp at o4; simp [AHeap.upd, q2', show ¬ bp = b from fun q => o4 q.symm]
          have f13 : H b13 = none := by
            have : Fresh H b13 := by cases o <;> simp at hb13 <;> simp [hb13]
            simpa [Fresh] using this
          by_cases hin : xb ∈ pl
          · obtain ⟨i, hi⟩ : ∃ i, i = pl.idxOf xb := ⟨_, rfl⟩
            have hi1 : i < pl.length := by rw [hi]; exact List.idxOf_lt_length_of_mem hin
            have hi2 : pl.getD i 0 = xb := by
              have : pl[i] = xb := by subst hi; exact List.getElem_idxOf hi1
              rw [List.getD_eq_getElem?_getD, List.getElem?_eq_getElem hi1, this]; rfl
            have hi3 : i ≤ out.length := by omega
            have hwj : IntKind.i64.wrap ((i : Int) + 1) = (i : Int) + 1 := wrap_i64 (by omega) (by omega)
            rw [if_pos hin, ← hi]
            have hi0 : (0 : Int) ≤ (i : Int) := by omega
            simp [h1, h2, h3, h4, h9, h10, h11, h22, h23, h24, hi0, q1, q2, q3, q4, q1', q2', q3', o2, o3, o4, p2, p3, p3', p2', hb4]
            have hti : (natC pl).take (i + 1) = natC (s :: (out.take i).map (toN l)) := by
              rw [hpl]; simp [natC, List.map_take]
            have hto' : (natC out).take i = natC (out.take i) := by simp [natC, List.map_take]
            have htl : (out.take i).length = i := by simp; omega
            have hi4 : i + 1 ≤ out.length + 1 := by omega
            have hi5 : ((i : Int) + 1).toNat = i + 1 := by omega
            have hi6 : (0 : Int) ≤ (i : Int) + 1 := by omega
            refine AWP.post_trunc bp (i + 1) ?_
            cases o with
            | none =>
              have ho0 := hoe rfl
              obtain rfl : i = 0 := by rw [ho0] at hi3; simpa using hi3
              refine awp_draw_text (by kernel_rfl) [] [] (by kernel_rfl) (by kernel_rfl) (by simp) ?_
              simp [h1, h2, h3, h4, h9, h10, h11, h22, h23, h24, hwj, hi4, hi5, hi6, ho0]
              refine ⟨natC pl, by simp [AHeap.upd, q2'], ?_⟩
              simp [h1, h2, h3, h4, h9, h10, h11, h22, h23, h24, hti]
              have W0 := hWc 0 hi3 hi2
              refine turnA_to (((H.upd bu (.cells (barr l.length U'))).upd b4 (.cells [.int .i64 P, V])).upd bp (.cells (natC [s]))) ?_ ⟨⟨U', xb, [], bp, none⟩, hmu, W0, ⟨p1, p2, p3⟩, ⟨trivial, by simp, by simp, by simp⟩, fun _ => rfl, by simp [h1, h2, h3, h4, h9, h10, h11, h22, h23, h24]⟩
              exact drop_way1 f13 q3 q1 q2
            | some b =>
              simp at o4
              have o4' : ¬ bp = b := fun q => o4 q.symm
              refine AWP.post_trunc b i ?_
              refine awp_draw_text (by kernel_rfl) [] [] (by kernel_rfl) (by kernel_rfl) (by simp) ?_
              simp [h1, h2, h3, h4, h9, h10, h11, h22, h23, h24, hwj, hi4, hi5, hi6, hi3]
              refine ⟨natC out, by simp, natC pl, by simp [AHeap.upd, o4', q2'], ?_⟩
              simp [h1, h2, h3, h4, h9, h10, h11, h22, h23, h24, hti, hto']
              simp at q4 o2 o3
              refine turnA_to ((((H.upd bu (.cells (barr l.length U'))).upd b4 (.cells [.int .i64 P, V])).upd bp (.cells (natC (s :: (out.map (toN l)).take i)))).upd b (.cells (natC (out.take i)))) ?_ ⟨⟨U', xb, out.take i, bp, some b⟩, hmu, hWc i hi3 hi2, ⟨p1, p2, p3⟩, ⟨o1, by simp [o2], by simp [o3], by simp [o4]⟩, by simp, by simp [h1, h2, h3, h4, h9, h10, h11, h22, h23, h24, htl, List.map_take]⟩
              exact drop_way2 f13 q3 q1 q2 (fun q => q4 q.symm) (fun q => o4' q.symm)
          · rw [if_neg hin]
            simp [h1, h2, h3, h4, h9, h10, h11, h22, h23, h24, q1, q2, q3, q4, q1', q2', q3', o2, o3, o4, p2, p3, p3', p2', hb4]
            intro c1 hc1
            simp at hc1
            simp [h1, h2, h3, h4, h9, h10, h11, h22, h23, h24, hc1, q1, q2, q3, q4, q1', q2', q3', o2, o3, o4, p2, p3, p3', p2', hb4, hpll]
            refine ⟨by omega, fun c2 hc2 => ?_⟩
            simp [hc1, q4, o4, q2', q3', p3', p2'] at hc2
            simp [h1, h2, h3, h4, h9, h10, h11, h22, h23, h24, hc1]
            intro c3 hc3
            simp [hc1, q4, o4, q2', q3', p3', p2'] at hc3
            simp [h1, h2, h3, h4, h9, h10, h11, h22, h23, h24, hc1, hc2, hc3]
            have p1' : H bp = none := by simpa [Fresh] using p1
            have e2 : ¬ o = some c2 := by
              rcases hc2 with e | e
              · rw [e]; exact o4
              · exact e.1
            have e3 : ¬ o = some c3 := by
              rcases hc3.2.2 with e | e
              · rw [e]; exact o4
              · exact e.1
            have g2 : Fresh H c2 ∧ ¬ c2 = bu ∧ ¬ c2 = b4 ∧ ¬ c2 = b13 ∧ ¬ c2 = c1 := by
              rcases hc2 with e | e
              · rw [e]; exact ⟨p1, p2, p3, q2', hc1.2.2.2.2.1⟩
              · simp [e]
            have g3 : Fresh H c3 ∧ ¬ c3 = bu ∧ ¬ c3 = b4 ∧ ¬ c3 = b13 ∧ ¬ c3 = c1 := by
              rcases hc3.2.2 with e | e
              · rw [e]; exact ⟨p1, p2, p3, q2', hc1.2.2.2.2.1⟩
              · simp [e]
            obtain ⟨r1, r2, r3, r4, r5⟩ := g2
            obtain ⟨u1, u2, u3, u4, u5⟩ := g3
            rw [heap_way p1' p2 p3 q2 hc1.2.2.2.1 o4 e2 e3]
            refine appendA_updO (es := 1) (n := out.length) (k := 1) Nat.zero_lt_one (by omega) (fun q => by rw [hoe q]; rfl) (by simp) Nat.zero_lt_one ?_ fun c4 hc4 => ?_
            · cases o with
              | none => trivial
              | some b => simp at o1 o2 o3 o4 q4 e2 e3 hc1 ⊢; grind
            simp at hc4
            have hnp : natC pl ++ [.int .i64 (xb : Int)] = natC (s :: (out ++ [k]).map (toN l)) := by rw [hpl]; simp [natC, hto]
            have hno2 : natC out ++ [.int .i64 (k : Int)] = natC (out ++ [k]) := by simp [natC]
            simp [h1, h2, h3, h4, h9, h10, h11, h22, h23, h24, hc1, hnp, hno2]
            have f13' : Fresh H b13 := by simpa [Fresh] using f13
            refine turnA_to ((((H.upd bu (.cells (barr l.length U'))).upd b4 (.cells [.int .i64 P, V])).upd c2 (.cells (natC (s :: (out ++ [k]).map (toN l))))).upd c4 (.cells (natC (out ++ [k])))) ?_ ⟨⟨U', xb, out ++ [k], c2, some c4⟩, hmu, hWs hin, ⟨r1, r2, r3⟩, ⟨by simp [hc4], by simp [hc4], by simp [hc4], by simp [hc4]⟩, by simp, by simp [h1, h2, h3, h4, h9, h10, h11, h22, h23, h24]⟩
            rw [show (s :: (List.map (toN l) out ++ [toN l k])) = s :: List.map (toN l) (out ++ [k]) from by simp]
            refine Drop.both (Drop.new (Drop.both (Drop.new (Drop.new (Drop.refl _) ?_) ?_)) ?_)
            · simp [f13', q1, q3, q1', q3']
            · simp [hc1]
            · simp [u1, u2, u3, hc3, show ¬ bu = c3 from fun q => u2 q.symm, show ¬ b4 = c3 from fun q => u3 q.symm]
        · have hfI : ¬ (xa : Int) = (e : Int) := by omega
          simp [h1, h2, h3, h4, h9, h10, h11, h22, h23, h24, q1, q2, q3, q4, q1', q2', q3', o2, o3, o4, p2, p3, p3', p2', hb4, barr_dr hlt, hlt, hltI, hu, hxa1, hxb1, hf, hfI]
          rw [← hVs]
          refine turnA_to ((((H.upd bu (.cells (barr l.length U))).upd b4 (.cells [.int .i64 P, V])).upd bp (.cells (natC (s :: out.map (toN l))))).updO o (natC out)) ?_ ⟨k + 1, by omega, by omega, fun j hj a1 a2 => hskip (fun q => hf (hfr ▸ q.2)) j hj ⟨a1, a2⟩, by simp [h1, h2, h3, h4, h9, h10, h11, h22, h23, h24, hwi, hVs]⟩
          exact hdr _ _
      · have huf : U k = false := by simpa using hu
        simp [h1, h2, h3, h4, h9, h10, h11, h22, h23, h24, q1, q2, q3, q4, q1', q2', q3', o2, o3, o4, p2, p3, p3', p2', hb4, barr_dr hlt, hlt, hltI, huf, hxa1, hxb1]
        rw [← hVs]
        refine turnA_to ((((H.upd bu (.cells (barr l.length U))).upd b4 (.cells [.int .i64 P, V])).upd bp (.cells (natC (s :: out.map (toN l))))).updO o (natC out)) ?_ ⟨k + 1, by omega, by omega, fun j hj a1 a2 => hskip (fun q => hu q.1) j hj ⟨a1, a2⟩, by simp [h1, h2, h3, h4, h9, h10, h11, h22, h23, h24, hwi, hVs]⟩
        exact hdr _ _
    · exfalso
      obtain rfl : k = l.length := by omega
      exact hno k0 hk0 ⟨hk0u, hk0f⟩
end Go.Proofs

end

section
/-
  Flow: the reference's network of ones.
-/
namespace Go.Proofs
open Go Go.AH
set_option maxRecDepth 10000
set_option maxHeartbeats 4000000

theorem l_Ones (n : Int) (l : List RArc) (hl : l.length ≤ 1000) : Pure Try.prog 28 [netV n l] (netV n (onesL l)) := by
  refine pure_of (acalls_of Try.func28 rfl Try.call28 (by kernel_rfl) (by show _ ≤ (36 : Nat); simp) ?_)
  obtain ⟨V, hV⟩ : ∃ V, V = arcsL l := ⟨_, rfl⟩
  have hV1 : V.one = true := by rw [hV]; simp
  have hV2 : V.fit = true := by rw [hV]; simp
  have hV3 : V.cells = [V] := by rw [hV]; simp
  obtain ⟨N, hN⟩ : ∃ N, N = l.length := ⟨_, rfl⟩
  obtain ⟨L1, hL1⟩ : ∃ L1, L1 = onesL l := ⟨_, rfl⟩
  have hL1l : L1.length = l.length := by rw [hL1]; simp
  have hlen : ∀ h : AHeap, lenA Try.prog h 22 V = some (.int .i64 (N : Int)) := by
    intro h
    rw [hV, hN]
    unfold arcsL
    split
    · next e => subst e; simp
    · simp [arcsA]
  rw [show netV n l = .agg [.int .i64 n, V] from by rw [hV]; rfl, ← hL1]
  simp
  intro b1 hb1
  simp [hV1, hV2, hV3]
  intro b2 hb2
  simp at hb2
  simp [hb2]
  intro b3 hb3
  simp at hb3
  simp [hb2, hb3, splice]
  refine awp_loop_g (γ := At) (fun q t h => (q.i ≤ N) ∧ ((q.o = none ↔ q.i = 0) ∧ ¬ q.o = some b1 ∧ ¬ q.o = some b2 ∧ ¬ q.o = some b3) ∧ t 1 = .ptr b1 0 ∧ t 2 = .ptr b2 0 ∧ t 3 = .ptr b3 0 ∧ t 4 = .int .i64 q.i ∧ h = (((AHeap.empty.upd b1 (.cells [.int .i64 n, V])).upd b2 (.cells [.int .i64 0, .nilsl])).upd b3 (.cells [.int .i64 n, ownV q.o q.i 3])).updO q.o (arcC (L1.take q.i))) (fun q => N - q.i) (⟨0, none⟩) (turnA_self (by simp [hb2, hb3])) ?_
  rintro q t hx ⟨hi, ho, h1, h2, h3, h4, ex⟩
  rw [ex]
  clear ex
  obtain ⟨i, o⟩ := q
  simp only at h1 h2 h3 h4 hi ho
  obtain ⟨ho1, ho2, ho3, ho4⟩ := ho
  by_cases hlt : i < N
  · have hwi : IntKind.i64.wrap ((i : Int) + 1) = (i : Int) + 1 := wrap_i64 (by omega) (by omega)
    have hin : i < l.length := by omega
    have hne : ¬ l = [] := fun e => by rw [e] at hin; simp at hin
    have hVs : V = .sl l.length (arcC l) := by rw [hV]; unfold arcsL arcsA; rw [if_neg hne]
    have hat := arcC_at hin
    have hts : arcC (L1.take (i + 1)) = arcC (L1.take i) ++ [.int .i64 l[i].a, .int .i64 l[i].b, .int .i64 1] := by
      have hin1 : i < L1.length := by omega
      rw [List.take_succ_eq_append_getElem hin1, arcC_append]
      simp [hL1, onesL, arcC]
      rfl
    obtain ⟨y, hy⟩ : ∃ y, y = l[i] := ⟨_, rfl⟩
    rw [← hy] at hat hts
    have hz : zcells [.int .i64 0, .int .i64 0, .int .i64 0] 1 = [.int .i64 0, .int .i64 0, .int .i64 0] := rfl
    have hi3 : 3 ≤ l.length * 3 - i * 3 := by omega
    have hi4 : min 3 (l.length * 3 - i * 3) = 3 := by omega
    rw [hVs] at hV1 hV2 hV3 hlen ⊢
    simp [h1, h2, h3, h4, hlen, hlt, hb2, hb3, ho2, ho3, ho4, -lenA, hin, hat, hz, splice, hi3, hi4]
    refine awp_draw_text (by kernel_rfl) [] [] (by kernel_rfl) (by kernel_rfl) (by simp) ?_
    simp [h1, h2, h3, h4, hlen, hlt, hb2, hb3, ho2, ho3, ho4, -lenA, hin, hat, hz, splice, hi3, hi4]
    try simp [h1, h2, h3, h4, hin, hlt, hb2, hb3, ho2, ho3, ho4, hat, hz, splice, hi3, hi4]
    intro b6 hb6
    simp [ho2, ho3, ho4] at hb6
    simp [h1, h2, h3, h4, hb6, hb2, hb3, ho2, ho3, ho4]
    refine appendA_updO (by omega) (by omega) (fun e => by rw [ho1.1 e]; rfl) (by simp; omega) (by simp) (by cases o with | none => simp | some b => simp at hb6 ho2 ho3 ho4 ⊢; grind) fun b' hb' => ?_
    simp [hb6, hb2, hb3, ho2, ho3, ho4] at hb'
    simp [h1, h2, h3, h4, hb', hb6, hb2, hb3, ho2, ho3, ho4]
    rw [← hts]
    refine turnA_to ((((AHeap.empty.upd b1 (.cells [.int .i64 n, .sl l.length (arcC l)])).upd b2 (.cells [.int .i64 0, .nilsl])).upd b3 (.cells [.int .i64 n, .osl b' 0 (i + 1) 3])).updO (some b') (arcC (L1.take (i + 1)))) ?_ ⟨⟨i + 1, some b'⟩, by simp only; omega, by simp only; omega, by simp [hb'], by simp [h1, h2, h3, h4, hwi]⟩
    simp
    exact Drop.both (Drop.new (Drop.refl _) (by simp [hb6]))
  · have hiN : i = N := by omega
    have hRt : L1.take i = L1 := List.take_of_length_le (by omega)
    simp [h1, h2, h3, h4, hlen, hlt, hb2, hb3, ho2, ho3, ho4, -lenA]
    rw [hRt]
    cases o with
    | none =>
      have hi0 := ho1.1 rfl
      have hle : L1 = [] := List.eq_nil_of_length_eq_zero (by omega)
      refine finA_drop ?_
      rw [hle]
      rfl
    | some b =>
      have hne : ¬ L1 = [] := fun e => by
        have := ho1.2
        rw [e] at hL1l
        simp at hL1l
        have := this (by omega)
        cases this
      refine finA_all 3 ?_
      rw [frz_agg]
      simp only [List.map_cons, List.map_nil, ownV_some, updO_some]
      rw [frz_osl (by simp)]
      simp [netV, arcsL, arcsA, hne, hiN, hN, hL1l]
      rw [map_frozen arcC_frozen]
      exact List.take_of_length_le (by simp [hL1l])
end Go.Proofs

end
