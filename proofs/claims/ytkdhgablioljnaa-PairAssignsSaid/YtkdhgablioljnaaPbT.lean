/-
  Pair: the reference's search for the first best assignment, walked.
-/
import Derived.Test.YtkdhgablioljnaaPbS
import Derived.Test.YtkdhgablioljnaaPbP
set_option linter.unusedSimpArgs false
set_option linter.unusedVariables false
set_option linter.unusedSectionVars false
namespace Go.Proofs
open Go Go.AH
set_option maxRecDepth 10000
set_option maxHeartbeats 8000000

def nI (F : List Nat) : List Int := F.map fun k : Nat => (k : Int)
/-- The worth of the best with one's j-th free post. -/
noncomputable def vJ (C : List (List Int)) (m d : Nat) (F : List Nat) (j : Nat) : Int := cF (subC C m F) 0 j + optV d (cF (subC C (m + 1) (F.eraseIdx j)))
/-- The posts then. -/
noncomputable def pJ (C : List (List Int)) (m d : Nat) (F : List Nat) (j : Nat) : List Int := lF (nI F) j :: gB d (subC C (m + 1) (F.eraseIdx j)) ((nI F).eraseIdx j)
structure BB (C : List (List Int)) (m d : Nat) (F : List Nat) (jj : Nat) (bl : List Int) (w : Int) : Prop where
  is : (jj = 0 ∧ bl = [] ∧ w = 0) ∨ ∃ jb, jb < jj ∧ bl = pJ C m d F jb ∧ w = vJ C m d F jb ∧ (∀ j, j < jj → vJ C m d F j ≤ w) ∧ ∀ j, j < jb → vJ C m d F j < w
structure RZ2 where
  k : Nat
  bo : Option Nat
  bl : List Int
  w : Int
theorem frN_take {n k : Nat} {T : List Int} (h : k ≤ n) : frN k T = (frN n T).take (frN k T).length := by
  obtain ⟨e, rfl⟩ : ∃ e, n = k + e := ⟨n - k, by omega⟩
  have : frN (k + e) T = frN k T ++ ((List.range e).map (fun x => k + x)).filter (fun x : Nat => !T.contains (x : Int)) := by
    unfold frN
    rw [List.range_add, List.filter_append]
  rw [this, List.take_left]
theorem frN_succ {k : Nat} {T : List Int} : frN (k + 1) T = if T.contains (k : Int) then frN k T else frN k T ++ [k] := by
  unfold frN
  rw [List.range_succ, List.filter_append]
  by_cases h : T.contains (k : Int) = true
  · rw [if_pos h, List.filter_cons_of_neg (by simpa using h)]; simp
  · rw [if_neg h, List.filter_cons_of_pos (by simpa using h)]; simp
theorem cF_sub {C : List (List Int)} {n m j k : Nat} {F : List Nat} (O : OffOk C n) (hm : m < n) (hk : k < n) (e : F[j]? = some k) : cF (subC C m F) 0 j = cF C m k := by
  obtain ⟨row, h1, h2, h3⟩ := O.row hm
  unfold cF subC
  rw [List.getElem?_map, List.getElem?_drop, Nat.add_zero, h1]
  simp only [Option.map_some, Option.getD_some]
  rw [List.getElem?_map, e]
  rfl
theorem BB.step {C : List (List Int)} {m d : Nat} {F : List Nat} {jj : Nat} {bl : List Int} {w : Int} (B : BB C m d F jj bl w) : (if bl = [] ∨ w < vJ C m d F jj then BB C m d F (jj + 1) (pJ C m d F jj) (vJ C m d F jj) else BB C m d F (jj + 1) bl w) := by
  rcases B.is with ⟨rfl, rfl, rfl⟩ | ⟨jb, h1, h2, h3, h4, h5⟩
  · rw [if_pos (.inl rfl)]
    exact ⟨.inr ⟨0, by omega, rfl, rfl, fun j hj => by have : j = 0 := by omega
                                                       subst this; exact Int.le_refl _, fun j hj => absurd hj (Nat.not_lt_zero j)⟩⟩
  · have hb : bl ≠ [] := by rw [h2]; unfold pJ; simp
    by_cases q : w < vJ C m d F jj
    · rw [if_pos (.inr q)]
      refine ⟨.inr ⟨jj, by omega, rfl, rfl, fun j hj => ?_, fun j hj => ?_⟩⟩
      · by_cases e : j = jj
        · subst e; exact Int.le_refl _
        · have := h4 j (by omega); omega
      · have := h4 j hj; omega
    · rw [if_neg (by rintro (h | h); exact hb h; exact q h)]
      refine ⟨.inr ⟨jb, by omega, h2, h3, fun j hj => ?_, h5⟩⟩
      by_cases e : j = jj
      · subst e; omega
      · exact h4 j (by omega)
/-- The first best one is the greedy one. -/
theorem BB.done {C : List (List Int)} {n m d : Nat} {F : List Nat} {bl : List Int} {w : Int} (O : OffOk (subC C m F) (d + 1)) (hF : F.length = d + 1) (B : BB C m d F (d + 1) bl w) : bl = gB (d + 1) (subC C m F) (nI F) ∧ w = optV (d + 1) (cF (subC C m F)) := by
  rcases B.is with ⟨h, _⟩ | ⟨jb, h1, h2, h3, h4, h5⟩
  · omega
  have hv : ∀ j, vJ C m d F j = cF (subC C m F) 0 j + optV d (cF (wo (subC C m F) j)) := fun j => by unfold vJ; rw [wo_sub]
  have F0 := fJ_ok O
  have hmax : ∀ j, j < d + 1 → vJ C m d F j ≤ optV (d + 1) (cF (subC C m F)) := fun j hj => by
    rw [hv]
    obtain ⟨q2, hq2, e2⟩ := (opt_has (wo (subC C m F) j) d (wo_or O hj)).has
    have hA := asg_cons hj hq2
    have e3 := aW_cons (j := j) O (q := fun r => match r with | 0 => j | r + 1 => skp j (q2 r)) (q' := q2) rfl (fun r _ => rfl)
    have h7 : aW (cF (subC C m F)) (fun r => match r with | 0 => j | r + 1 => skp j (q2 r)) (d + 1) ≤ optV (d + 1) (cF (subC C m F)) := (opt_has (subC C m F) (d + 1) (.inr O)).all _ hA
    have h8 : cF (subC C m F) 0 j + aW (cF (wo (subC C m F) j)) q2 d ≤ optV (d + 1) (cF (subC C m F)) := Int.le_trans (Int.le_of_eq e3.symm) h7
    rw [e2] at h8
    exact h8
  have hw : w = optV (d + 1) (cF (subC C m F)) := by
    have a1 := h4 _ F0.lt
    have a2 := F0.eq
    rw [← hv] at a2
    have a3 := hmax jb h1
    omega
  have hjb : jb = fJ d (subC C m F) := FJ.uniq ⟨h1, by rw [← hv, ← h3, hw], fun k hk q => by
    have := h5 k hk
    rw [← hv] at q
    omega⟩ F0
  refine ⟨?_, hw⟩
  rw [h2, gB_succ, ← hjb, wo_sub]
  rfl
theorem w_rassign (C : List (List Int)) (n : Nat) (O : OffOk C n) : ∀ (d m : Nat), m + d = n → ∀ (T : List Int), T.length = m → T.Nodup → (∀ x ∈ T, 0 ≤ x ∧ x < n) → ∀ (o : Option Nat) (H : AHeap), (o = none ↔ T = []) → (∀ b, o = some b → H b = some (.cells (intC T))) →
    ACalls Try.prog 61 [.sl n (partsC C), ownV o m 1] H fun r h' => r = .tup [intL (gB d (subC C m (frN n T)) (nI (frN n T))), .int .i64 (optV d (cF (subC C m (frN n T))))] ∧ h' = H
  | 0, m, hmd, T, hTl, hTn, hTr, o, H, ho, hb => by
    refine acalls_of Try.func61 rfl Try.call61 (by kernel_rfl) (by show _ ≤ (63 : Nat); simp) ?_
    have hlo : ∀ h, lenA Try.prog h 24 (ownV o m 1) = some (.int .i64 (m : Int)) := fun h => by
      cases o with
      | none => rw [ho.1 rfl] at hTl; subst hTl; simp
      | some b => simp
    have hmn : m = n := by omega
    have hlC : ∀ h, lenA Try.prog h 22 (.sl n (partsC C)) = some (.int .i64 (n : Int)) := fun h => by simp
    simp [hlo, hlC, hmn, -lenA]
    rw [hmn] at hlo
    simp [hlo, hlC, -lenA]
    refine finA_self ⟨?_, rfl⟩
    rw [opt_nil.val]; simp [gB, intL]
  | d + 1, m, hmd, T, hTl, hTn, hTr, o, H, ho, hb => by
    have ih := fun T h1 h2 h3 o H h4 h5 => w_rassign C n O d (m + 1) (by omega) T h1 h2 h3 o H h4 h5
    refine acalls_of Try.func61 rfl Try.call61 (by kernel_rfl) (by show _ ≤ (63 : Nat); simp) ?_
    have n1 := O.n1
    have hlo : ∀ h, lenA Try.prog h 24 (ownV o m 1) = some (.int .i64 (m : Int)) := fun h => by
      cases o with
      | none => rw [ho.1 rfl] at hTl; subst hTl; simp
      | some b => simp
    have hmn : m < n := by omega
    have hmn2 : ¬ m = n := by omega
    have hmnI : ¬ (m : Int) = (n : Int) := by omega
    have hlC : ∀ h, lenA Try.prog h 22 (.sl n (partsC C)) = some (.int .i64 (n : Int)) := fun h => by simp
    obtain ⟨F, hF⟩ : ∃ F, F = frN n T := ⟨_, rfl⟩
    have hFl : F.length = d + 1 := by have := frN_len hTn hTr; rw [hF]; omega
    have OS : OffOk (subC C m F) (d + 1) := by
      have := subC_ok (m := m) O (F := F) (by omega) hmn (fun k hk => (frN_mem.1 (hF ▸ hk)).1)
      rw [show n - m = d + 1 from by omega] at this
      exact this
    rw [← hF]
    simp [hlo, hlC, hmn2, hmnI, -lenA]
    have n0F : ∀ k, k ∈ F → k < n ∧ (k : Int) ∉ T := fun k hk => frN_mem.1 (hF ▸ hk)
    have Fnd : F.Nodup := by rw [hF]; exact frN_nd
    have lm : ∀ k, k ≤ n → (frN k T).length ≤ d + 1 := fun k hk => by
      have := congrArg List.length (frN_take (T := T) hk)
      rw [List.length_take, ← hF, hFl] at this
      omega
    refine awp_loop_g (γ := RZ2) (fun z t h => (z.k ≤ n) ∧ (BB C m d F (frN z.k T).length z.bl z.w) ∧ ((z.bo = none ↔ z.bl = []) ∧ FreshO H z.bo) ∧ t 0 = .sl n (partsC C) ∧ t 1 = ownV o m 1 ∧ t 6 = ownV z.bo z.bl.length 1 ∧ t 7 = .int .i64 z.w ∧ t 8 = .int .i64 z.k ∧ h = H.updO z.bo (intC z.bl)) (fun z => n - z.k) (⟨0, none, [], 0⟩) (turnA_self ⟨Nat.zero_le _, ⟨.inl ⟨rfl, rfl, rfl⟩⟩, by simp, by simp⟩) ?_
    rintro z t hx ⟨hk, hB, hbo, h0, h1, h6, h7, h8, ex⟩
    obtain ⟨k, bo, bl, w⟩ := z
    simp only at h0 h1 h6 h7 h8 hk hB hbo ex
    rw [ex]
    clear ex
    obtain ⟨hbo1, hbo2⟩ := hbo
    by_cases hkn : k < n
    rotate_left
    · have hkE : k = n := by omega
      have hjE : (frN k T).length = d + 1 := by rw [hkE, ← hF, hFl]
      rw [hjE] at hB
      obtain ⟨e1, e2⟩ := hB.done (n := n) OS hFl
      simp [h0, h1, h6, h7, h8, hkE]
      cases bo with
      | none =>
        exfalso
        have h0 := hbo1.1 rfl
        rw [h0, gB_succ] at e1
        cases e1
      | some b =>
        have hne : bl ≠ [] := fun e => nomatch hbo1.2 e
        have hfb : Fresh H b := hbo2
        refine finA_to 3 H (Drop.new (Drop.refl _) (by simpa [Fresh] using hfb)) ⟨?_, rfl⟩
        rw [frz_tup]
        simp only [List.map_cons, List.map_nil, frz_int, ownV_some]
        rw [frz_osl hfb]
        rw [← e1, ← e2]
        simp [intL, hne]
        rw [map_frozen intC_frozen]
        exact List.take_of_length_le (by simp)
    have hknI : (k : Int) < (n : Int) := by omega
    have hwk : IntKind.i64.wrap ((k : Int) + 1) = (k : Int) + 1 := wrap_i64 (by omega) (by omega)
    have hb2 : ∀ b, o = some b → (H.updO bo (intC bl)) b = some (.cells (intC T)) := fun b e => by
      have h1 := hb b e
      cases bo with
      | none => exact h1
      | some x =>
        have : b ≠ x := fun q => by
          have h3 : H x = none := hbo2
          rw [q, h3] at h1; cases h1
        rw [updO_some, AHeap.upd_ne this]; exact h1
    have hfs := frN_succ (k := k) (T := T)
    simp [h0, h1, h6, h7, h8, hkn, hknI]
    have cH := l_HasN T o k (H.updO bo (intC bl)) (by omega) hb2 ho
    rw [hTl] at cH
    refine cH.use ?_
    obtain ⟨A, hA⟩ : ∃ A, T.contains (k : Int) = A := ⟨_, rfl⟩
    rw [hA] at hfs ⊢
    cases A with
    | true =>
      rw [if_pos rfl] at hfs
      simp [h0, h1, h6, h7, h8]
      exact turnA_self ⟨⟨k + 1, bo, bl, w⟩, by simp only; omega, by simp only; omega, by simp only; rw [hfs]; exact hB, ⟨hbo1, hbo2⟩, by simp [h0, h1, h6, h7, h8, hwk]⟩
    | false =>
      rw [if_neg (by simp)] at hfs
      have hX : appXs (H.updO bo (intC bl)) 1 (ownV o m 1) = some (m, intC T) := by
        cases o with
        | none => have := ho.1 rfl; subst this; simp at hTl; subst hTl; rfl
        | some b =>
          have h1 := hb2 b rfl
          have hlt : (intC T).take m = intC T := List.take_of_length_le (by simp [hTl])
          simp [appXs, h1, hTl, hlt]
      simp [h0, h1, h6, h7, h8, hX, -appendA_nilsl]
      refine appendA_nil2 (by omega) (fun e => by rw [List.eq_nil_of_length_eq_zero (hTl.trans e)]; rfl) fun o2 ho2 hf2 => ?_
      simp [h0, h1, h6, h7, h8]
      intro b33 hb33
      simp at hb33
      simp [h0, h1, h6, h7, h8, hb33]
      have hf3 : FreshO ((H.upd b33 (.cells [.int .i64 (k : Int)])).updO bo (intC bl)) o2 := by
        simp at hf2 ⊢
        exact ⟨hf2.1, hb33.1, hf2.2⟩
      refine appendA_updO (es := 1) (n := m) (k := 1) Nat.zero_lt_one (by omega) (fun e => by have := ho2.1 e; rw [this] at hTl; rw [List.eq_nil_of_length_eq_zero hTl]; rfl) (by simp [hTl]) Nat.zero_lt_one hf3 fun b' hb' => ?_
      simp at hb'
      obtain ⟨j, hj⟩ : ∃ j, j = (frN k T).length := ⟨_, rfl⟩
      have hFj : F[j]? = some k := by
        have h1 := frN_take (n := n) (k := k + 1) (T := T) (by omega)
        rw [hfs, ← hF] at h1
        have h2 := congrArg (fun l => l[j]?) h1
        simp only [List.getElem?_append_right (show (frN k T).length ≤ j by omega), ← hj, Nat.sub_self, List.getElem?_cons_zero] at h2
        rw [List.getElem?_take] at h2
        split at h2
        · exact h2.symm
        · cases h2
      have hkT : (k : Int) ∉ T := by
        intro q
        have : T.contains (k : Int) = true := by simpa using q
        rw [hA] at this; cases this
      have hsn : frN n (T ++ [(k : Int)]) = F.eraseIdx j := by rw [hF]; exact frN_snoc (by rw [← hF]; exact hFj)
      have hts : intC T ++ [.int .i64 (k : Int)] = intC (T ++ [(k : Int)]) := by simp [intC]
      rw [hts]
      simp [h0, h1, h6, h7, h8, hb', hb33]
      have cI := ih (T ++ [(k : Int)]) (by simp [hTl]) (by
        rw [List.nodup_append]
        refine ⟨hTn, by simp, fun x hx y hy => ?_⟩
        simp only [List.mem_singleton] at hy
        intro q
        rw [q, hy] at hx; exact hkT hx) (fun x hx => by
        rcases List.mem_append.1 hx with hx | hx
        · exact hTr x hx
        · simp only [List.mem_singleton] at hx; rw [hx]; omega) (some b') (((H.upd b33 (.cells [.int .i64 (k : Int)])).upd b' (.cells (intC (T ++ [(k : Int)])))).updO bo (intC bl)) (by simp) (fun b e => by
          cases e
          cases bo with
          | none => simp [AHeap.upd]
          | some x =>
            have : ¬ b' = x := fun q => by simp [q] at hb'
            rw [updO_some, AHeap.upd_ne this, AHeap.upd_same])
      rw [hsn] at cI
      obtain ⟨v, hv⟩ : ∃ v, v = optV d (cF (subC C (m + 1) (F.eraseIdx j))) := ⟨_, rfl⟩
      obtain ⟨rs, hrs⟩ : ∃ rs, rs = gB d (subC C (m + 1) (F.eraseIdx j)) (nI (F.eraseIdx j)) := ⟨_, rfl⟩
      rw [← hv, ← hrs, ownV_some] at cI
      refine cI.use ?_
      obtain ⟨row, hr1, hr2, hr3⟩ := O.row hmn
      have hat := partsC_row hr1
      have hgc := intC_at (hr3 k hkn)
      have hkl : k < row.length := by omega
      have hpC : (partsC C).length = n := by simp [partsC, O.len]
      have hjd : j < d + 1 := by
        rcases Nat.lt_or_ge j F.length with q | q
        · omega
        · rw [List.getElem?_eq_none q] at hFj; cases hFj
      have hoo : OO d (subC C (m + 1) (F.eraseIdx j)) := by rw [← wo_sub]; exact wo_oo OS hjd
      have bo2 := hoo.bound
      rw [← hv] at bo2
      have bC := O.c m k hmn hkn
      have hvj : vJ C m d F j = v + cF C m k := by unfold vJ; rw [cF_sub O hmn hkn hFj, ← hv]; omega
      have w1 : IntKind.i64.wrap (v + cF C m k) = vJ C m d F j := by rw [hvj]; exact wrap_i64 (by omega) (by omega)
      have hgm : (partsC C)[m]? = some (.sl row.length (intC row)) := by simp [partsC, hr1]
      have hpj : pJ C m d F j = (k : Int) :: rs := by
        unfold pJ
        congr 1
        · unfold lF nI; rw [List.getElem?_map, hFj]; rfl
        · rw [hrs]
          congr 1
          unfold nI
          rw [List.eraseIdx_eq_take_drop_succ, List.eraseIdx_eq_take_drop_succ, List.map_append, List.map_take, List.map_drop]
      have hrl : rs.length = d := by
        rw [hrs]
        have hFe : (F.eraseIdx j).length = d := by rw [List.length_eraseIdx_of_lt (by omega)]; omega
        exact (gB_asg d _ _ hoo (by simp [nI, hFe])).1
      have hst := hB.step
      rw [← hj] at hst
      have hjs : (frN (k + 1) T).length = j + 1 := by rw [hfs, List.length_append, ← hj]; rfl
      have hXr : ∀ h : AHeap, appXs h 1 (intL rs) = some (d, intC rs) := fun h => by
        unfold intL
        split
        · next e => rw [e] at hrl; subst hrl; rw [e]; rfl
        · have : (intC rs).take rs.length = intC rs := List.take_of_length_le (by simp)
          simp [appXs, hrl]
      cases bo with
      | none =>
        have hbl := hbo1.1 rfl
        rw [if_pos (.inl hbl), hpj] at hst
        simp [h0, h1, h6, h7, h8, hlo, hmn, hpC, hgm, hat, hgc, hkl, hkn, hr2, w1, -lenA]
        intro bk hbk
        simp at hbk
        simp [h0, h1, h6, h7, h8, hbk, hXr]
        refine ⟨by omega, fun b2 hb2 => ?_⟩
        simp at hb2
        have hcs : AV.int .i64 (k : Int) :: intC rs = intC ((k : Int) :: rs) := rfl
        rw [hcs]
        simp [h0, h1, h6, h7, h8]
        refine turnA_to (H.updO (some b2) (intC ((k : Int) :: rs))) ?_ ⟨⟨k + 1, some b2, (k : Int) :: rs, vJ C m d F j⟩, by simp only; omega, by simp only; omega, by simp only; rw [hjs]; exact hst, ⟨by simp, by simp [hb2]⟩, by simp [h0, h1, h6, h7, h8, hwk, hrl, Nat.add_comm]⟩
        exact Drop.both (Drop.new (Drop.new (Drop.refl _) (show H b33 = none from hb33.2.2)) (show H b' = none from hb'.2.2.2))
      | some x0 =>
        have hbl : bl ≠ [] := fun e => nomatch hbo1.2 e
        by_cases hw : w < vJ C m d F j
        · rw [if_pos (.inr hw), hpj] at hst
          simp [h0, h1, h6, h7, h8, hlo, hmn, hpC, hgm, hat, hgc, hkl, hkn, hr2, w1, hw, -lenA]
          intro bk hbk
          simp at hbk
          simp [h0, h1, h6, h7, h8, hbk, hXr]
          refine ⟨by omega, fun b2 hb2 => ?_⟩
          simp at hb2
          have hcs : AV.int .i64 (k : Int) :: intC rs = intC ((k : Int) :: rs) := rfl
          rw [hcs]
          simp [h0, h1, h6, h7, h8]
          refine turnA_to (H.updO (some b2) (intC ((k : Int) :: rs))) ?_ ⟨⟨k + 1, some b2, (k : Int) :: rs, vJ C m d F j⟩, by simp only; omega, by simp only; omega, by simp only; rw [hjs]; exact hst, ⟨by simp, by simp [hb2]⟩, by simp [h0, h1, h6, h7, h8, hwk, hrl, Nat.add_comm]⟩
          exact Drop.both (Drop.new (Drop.new (Drop.new (Drop.refl _) (show H b33 = none from hb33.2.2)) (show H b' = none from hb'.2.2.2)) (show H x0 = none from hbo2))
        · rw [if_neg (by rintro (h | h); exact hbl h; exact hw h)] at hst
          simp [h0, h1, h6, h7, h8, hlo, hmn, hpC, hgm, hat, hgc, hkl, hkn, hr2, w1, hw, -lenA]
          refine turnA_to (H.updO (some x0) (intC bl)) ?_ ⟨⟨k + 1, some x0, bl, w⟩, by simp only; omega, by simp only; omega, by simp only; rw [hjs]; exact hst, ⟨hbo1, hbo2⟩, by simp [h0, h1, h6, h7, h8, hwk]⟩
          exact Drop.both (Drop.new (Drop.new (Drop.refl _) (show H b33 = none from hb33.2.2)) (show H b' = none from hb'.2.2.2))
end Go.Proofs
