/-
  Ring: cuts, lists that are cut, readiness in whole numbers: for the laws' walks.
-/
import Derived.Test.YtobdaaoefbgilaaG3
import Derived.Test.YtobdaaoefbgilaaG2
import Derived.Test.YtobdaaoefbgilaaRgAwk
set_option linter.unusedSimpArgs false
set_option linter.unusedVariables false
set_option linter.unusedSectionVars false
namespace Go.Proofs
open Go Go.AH
set_option maxRecDepth 10000
set_option maxHeartbeats 4000000

theorem condA_cut {P : Program} {ro : Option Nat} {N : Nat} {v : AV} {x y : Code} {K : AF → AHeap → Prop} {Q : Exit → AF → AHeap → Prop} {t : AF} {h : AHeap} (I : AF → AHeap → Prop) (hx : condA v (awp P ro N x (thenA I Q) t h) (awp P ro N y (thenA I Q) t h)) (hy : ∀ t h, I t h → K t h) :
    condA v (awp P ro N x (thenA K Q) t h) (awp P ro N y (thenA K Q) t h) := by
  have m : ∀ c t h, awp P ro N c (thenA I Q) t h → awp P ro N c (thenA K Q) t h := fun c t h => awp_mono c _ _ t h fun e t h q => by cases e <;> first | exact q | exact hy _ _ q
  unfold condA at hx ⊢
  split at hx
  · exact ⟨fun b => m _ _ _ (hx.1 b), fun b => m _ _ _ (hx.2 b)⟩
  · exact hx.elim
theorem loop_cut {P : Program} {ro : Option Nat} {N id : Nat} {c : Code} {K : AF → AHeap → Prop} {Q : Exit → AF → AHeap → Prop} {t : AF} {h : AHeap} (I : AF → AHeap → Prop) (hx : awpLoop (awp P ro N c) (blockA id (thenA I Q)) t h) (hy : ∀ t h, I t h → K t h) :
    awpLoop (awp P ro N c) (blockA id (thenA K Q)) t h := by
  refine awp_mono (P := P) (ro := ro) (N := N) (.loop c) (blockA id (thenA I Q)) (blockA id (thenA K Q)) t h (fun e t h q => ?_) hx
  have m : ∀ e t h, thenA I Q e t h → thenA K Q e t h := fun e t h q => by cases e <;> first | exact q | exact hy _ _ q
  cases e with
  | exit i =>
    unfold blockA at q ⊢
    simp only at q ⊢
    split
    · next he => rw [if_pos he] at q; exact m _ _ _ q
    · next he => rw [if_neg he] at q; exact q
  | normal => exact m .normal t h q
  | goto l => exact q
  | ret => exact q
  | panic ch => exact q
  | outgrown => exact q
theorem ACalls.fin {P : Program} {f : FuncId} {args : List AV} {h : AHeap} {R : AV → AHeap → Prop} (c : ACalls P f args h fun r h' => finA R r h') : ACalls P f args h R := by
  refine ⟨c.1, fun hf w vs D Rl rs => CallsIn.mono' (c.2 hf w vs D Rl rs) ?_⟩
  rintro en w' ⟨v, r, h1, rfl, ⟨k, h2, r', s, hr, q⟩, D1, R1, rv, st⟩
  refine ⟨v, r', h2, rfl, q, s.disj D1, s.rel R1 D1, ?_, st.trans (s.stp D1)⟩
  rcases hr with rfl | rfl
  · exact rv.ext (s.ext D1)
  · exact frz_sound R1 D1 (fun b => s.none) k _ _ rv
theorem listI_frz {l : List Int} {o : Option Nat} (e : o = none ↔ l = []) : frzF 1 (AHeap.empty.updO o (l.map (.int .i64))) AHeap.empty (ownV o l.length 1) = listI l := by
  cases o with
  | none =>
    have := e.1 rfl
    subst this
    exact frz_bare rfl
  | some b =>
    have hne : ¬ l = [] := fun q => by have := e.2 q; cases this
    have e0 : ∀ b, AHeap.empty b = none := fun _ => rfl
    rw [ownV_some, updO_some, frzF]
    simp only [AHeap.upd_same, e0]
    rw [if_pos (by simp), List.drop_zero, Nat.mul_one, List.take_of_length_le (by simp)]
    unfold listI intsA
    rw [if_neg hne, List.map_map]
    congr 1
theorem l_rawP (l : List Int) (most : Nat) (hl : l.length ≤ 20000000000000) (hm : most ≤ 1000) : Pure Try.prog 13 [intsA l, .int .i64 most] (listI (l.take most)) := by
  refine pure_of (ACalls.fin (ACalls.mono (l_raw l most hl hm) ?_))
  rintro r h ⟨o, rfl, rfl, e⟩
  exact finA_all 1 (listI_frz e)

theorem lenA_listI {h : AHeap} (l : List Int) : lenA Try.prog h 25 (listI l) = some (.int .i64 (l.length : Int)) := by
  unfold listI
  split
  · next e => subst e; simp
  · simp [intsA]

/-- A list of one's own in a slot is given up: from then on it is told by value. -/
theorem turnA_slot {K : AF → AHeap → Prop} {t : AF} {h : AHeap} (j b : Nat) (l : List Int) (hj : t j = .osl b 0 l.length 1) (hb : Fresh h b) (q : K (t.put j (intsA l)) h) : turnA K t (h.upd b (.cells (l.map (.int .i64)))) := by
  have hd : (h.upd b (.cells (l.map (.int .i64)))).del b = h := AHeap.del_upd hb
  refine turnA_frz 1 h (t.put j (intsA l)) (Drop.new (Drop.refl _) hb) (fun i => ?_) q
  by_cases e : i = j
  · subst e
    right
    rw [hj, frz_osl hb, cellsAt_upd, if_pos rfl]
    simp [AF.put, intsA]
    rw [List.take_of_length_le (by simp)]
    exact List.map_congr_left fun x _ => rfl
  · left
    simp [AF.put, e]

theorem conf_list {r : Rul} (hr : r.ok) {l : List Int} (h : confE r l = 0) : listI l = natsA (natI l) := by
  have hc := conf_cfg h
  have hne : ¬ l = [] := fun e => by subst e; have := hc.len; have := hr.m2; simp at *; omega
  rw [listI_ne hne, nats_ints]
  congr 1
  unfold natI
  rw [List.map_map]
  refine (List.map_id l).symm.trans (List.map_congr_left fun x hx => ?_)
  unfold confE at h
  split at h
  · cases h
  · split at h
    · cases h
    · next hb =>
      have hb' : l.any (badC r.c) = false := by simpa using hb
      have := List.any_eq_false.1 hb' x hx
      simp only [badC, Bool.or_eq_true, decide_eq_true_eq, not_or] at this
      simp only [id, Function.comp_apply]
      omega
def readyI (r : Rul) (l : List Nat) : List Int := (readyF r l).map fun x : Nat => (x : Int)
theorem readyI_mem {r : Rul} {l : List Nat} {x : Int} (h0 : 0 ≤ x) (h1 : x < r.m) : ((readyI r l).any fun y => decide (y = x)) = decide (0 ≤ takesF r l x.toNat) := by
  obtain ⟨n, rfl⟩ : ∃ n : Nat, x = n := ⟨x.toNat, by omega⟩
  rw [Bool.eq_iff_iff]
  simp only [List.any_eq_true, decide_eq_true_eq, readyI, List.mem_map, readyF, List.mem_filter, List.mem_range]
  constructor
  · rintro ⟨y, ⟨z, ⟨h2, h3⟩, rfl⟩, e⟩
    have : z = n := by omega
    subst this
    simpa using h3
  · intro h
    exact ⟨n, ⟨n, ⟨by omega, by simpa using h⟩, rfl⟩, rfl⟩
theorem readyI_len (r : Rul) (l : List Nat) : (readyI r l).length ≤ r.m := by
  unfold readyI readyF
  rw [List.length_map]
  exact Nat.le_trans (List.length_filter_le _ _) (by simp)


/-- A call that reads a list of one's own, made where there is more. -/
theorem own_call {f : FuncId} {args : List AV} {r : AV} {o : Option Nat} {cs : List AV} (c : ACalls Try.prog f args (AHeap.empty.updO o cs) fun a h => a = r ∧ h = AHeap.empty.updO o cs) {H : AHeap} (ho : FreshO H o) : ACalls Try.prog f args (H.updO o cs) fun a h => a = r ∧ h = H.updO o cs := by
  have D : Disj (AHeap.empty.updO o cs) H := fun b => by
    cases o with
    | none => exact .inl rfl
    | some x =>
      by_cases e : b = x
      · subst e; exact .inr ho
      · left; rw [updO_some, AHeap.upd_ne e]; rfl
  have e : (AHeap.empty.updO o cs).un H = H.updO o cs := by
    cases o with
    | none => rw [updO_none, updO_none]; exact AHeap.empty_un
    | some x =>
      rw [updO_some, updO_some]
      apply funext
      intro b
      show (AHeap.empty.upd x (.cells cs)).un H b = _
      rw [AHeap.un_at]
      by_cases q : b = x
      · subst q; rw [AHeap.upd_same]; exact AHeap.upd_same.symm
      · rw [AHeap.upd_ne q]; exact (AHeap.upd_ne q).symm
  have c2 := ACalls.frame c D
  rw [e] at c2
  refine ACalls.mono c2 ?_
  rintro r' h' ⟨h1, rfl, _, rfl, rfl⟩
  exact ⟨rfl, e⟩
theorem l_rawH (l : List Int) (most : Nat) (hl : l.length ≤ 20000000000000) (hm : most ≤ 1000) (H : AHeap) : ACalls Try.prog 13 [intsA l, .int .i64 most] H fun r h => ∃ o, r = ownV o (l.take most).length 1 ∧ h = H.updO o ((l.take most).map (.int .i64)) ∧ (o = none ↔ l.take most = []) ∧ FreshO H o := by
  have c2 := ACalls.frame (l_raw l most hl hm) (h2 := H) Disj.empty
  rw [AHeap.empty_un] at c2
  refine ACalls.mono c2 ?_
  rintro r' h' ⟨h1, rfl, D, o, rfl, rfl, e⟩
  refine ⟨o, rfl, ?_, e, ?_⟩
  · cases o with
    | none => rw [updO_none, updO_none]; exact AHeap.empty_un
    | some x =>
      rw [updO_some, updO_some]
      apply funext
      intro b
      show (AHeap.empty.upd x _).un H b = _
      rw [AHeap.un_at]
      by_cases q : b = x
      · subst q; rw [AHeap.upd_same]; exact AHeap.upd_same.symm
      · rw [AHeap.upd_ne q]; exact (AHeap.upd_ne q).symm
  · cases o with
    | none => trivial
    | some x =>
      rcases D x with q | q
      · rw [updO_some, AHeap.upd_same] at q; cases q
      · exact q
end Go.Proofs
