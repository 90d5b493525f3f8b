/-
  A call run by the evaluator: what it returns, rows that it owns.
-/
import Derived.Test.YtobdaaoefbgilaaAhXz
import Derived.Test.YtobdaaoefbgilaaAhIn
set_option linter.unusedSimpArgs false
set_option linter.unusedVariables false
set_option linter.unusedSectionVars false
namespace Go.AH
open Go

section
variable {ρ : Rn}
mutual
theorem ren_id (hb : ∀ i, ρ.b i = i) (hs : ∀ i, ρ.s i = 0) : ∀ v : AV, ren ρ v = v
  | .sl m cs => by simp only [ren, renL_id hb hs cs]
  | .osl b off m es => by simp only [ren, hb, hs, Nat.add_zero]
  | .ptr b off => by simp only [ren, hb, hs, Nat.add_zero]
  | .fptr cs => by simp only [ren, renL_id hb hs cs]
  | .map b => by simp only [ren, hb]
  | .fn f fa ca => by
    simp only [ren, renL_id hb hs fa, renL_id hb hs ca]
    cases f <;> first | rfl | simp only [hb]
  | .iface t v => by simp only [ren, ren_id hb hs v]
  | .agg cs => by simp only [ren, renL_id hb hs cs]
  | .tup cs => by simp only [ren, renL_id hb hs cs]
  | .undef => rfl
  | .bool b => rfl
  | .int k n => rfl
  | .str s => rfl
  | .nilsl => rfl
  | .nilptr => rfl
  | .nilmap => rfl
  | .nilfn => rfl
  | .nilif => rfl
theorem renL_id (hb : ∀ i, ρ.b i = i) (hs : ∀ i, ρ.s i = 0) : ∀ l : List AV, renL ρ l = l
  | [] => rfl
  | a :: as => by simp only [renL, ren_id hb hs a, renL_id hb hs as]
end
end

noncomputable def xcallK (P : Program) (L : List Nat) (n : Nat) (f : FuncId) (args : List AV) : Option (AV × XH) := xcall P L (xrun P L n) (.fn (.func f) [] []) args xstart (fun r h => some (r, h))

section
variable {P : Program}
theorem xcallK_ok (hm : P.follows .mixedOrders = true) {L : List Nat} (hL : ∀ f ∈ L, ∀ (args : Array Value) (w : World), (callFunc f args).run P w = .ok (.enter f args) w) {n : Nat} {f : FuncId} {args : List AV} {r : AV} {h1 : XH} (e : xcallK P L n f args = some (r, h1)) :
    ACalls P f args AHeap.empty fun r' H => ∃ ρ, HRep ρ h1 H ∧ r' = ren ρ r := by
  have C := xcall_ok (xrun_ok (draw_ok hm) hL n n (Nat.le_refl n)) hL
  have c := C _ xstart AHeap.empty (.fn (.func f) [] []) args _ _ e start_rep
  rw [ren_id (fun _ => rfl) (fun _ => rfl)] at c
  rw [show args.map (ren { b := fun i => i, s := fun _ => 0, r := fun _ => (default, fun _ => .undef), lo := 0, g := fun _ => .gone }) = args from by rw [← renL_eq]; exact renL_id (fun _ => rfl) (fun _ => rfl) args] at c
  have c' := (show ACalls P f ([] ++ args ++ []) AHeap.empty _ from c)
  rw [List.nil_append, List.append_nil] at c'
  refine ACalls.mono c' ?_
  rintro r' H ⟨ρ', r2, h2, _, _, R', rfl, eK⟩
  cases eK
  exact ⟨ρ', R', rfl⟩

/-! ### Rows that are owned -/
structure RowsAt (H : AHeap) (bN : Nat) (bs : List Nat) (rows : List (List Int)) : Prop where
  len : bs.length = rows.length
  nd : bs.Nodup
  nN : bN ∉ bs
  top : H bN = some (.cells (List.zipWith (fun (b : Nat) (r : List Int) => AV.osl b 0 r.length 1) bs rows))
  row : ∀ i (h1 : i < bs.length) (h2 : i < rows.length), H bs[i] = some (.cells (rows[i].map (.int .i64)))

def intsOf : List AV → Option (List Int)
  | [] => some []
  | .int .i64 n :: l => (intsOf l).map (n :: ·)
  | _ => none
theorem intsOf_spec : ∀ {l : List AV} {q : List Int}, intsOf l = some q → l = q.map (.int .i64)
  | [], q, e => by cases e; rfl
  | a :: l, q, e => by
    unfold intsOf at e
    split at e
    · next h => cases h
    · next n l' h =>
      cases h
      obtain ⟨q', h1, rfl⟩ := Option.map_eq_some_iff.1 e
      rw [intsOf_spec h1]; rfl
    · cases e
noncomputable def XH.row (h : XH) (b : Nat) : Option (List AV) := match h.get b with | .cells n t => some (t.take n 0) | _ => none
noncomputable def rowOf (h : XH) (v : AV) : Option (Nat × List Int) := match v with
  | .osl b 0 k 1 => match h.row b with
    | some cs => match intsOf cs with
      | some q => if q.length = k then some (b, q) else none
      | none => none
    | none => none
  | _ => none
noncomputable def rowsOf (h : XH) : List AV → Option (List (Nat × List Int))
  | [] => some []
  | v :: l => match rowOf h v, rowsOf h l with | some q, some qs => some (q :: qs) | _, _ => none
noncomputable def ownRows (h : XH) (v : AV) : Option (Nat × List (Nat × List Int)) := match v with
  | .osl b 0 k 1 => match h.row b with
    | some cs => match rowsOf h cs with
      | some qs => if qs.length = k ∧ nodupB (b :: qs.map (·.1)) = true then some (b, qs) else none
      | none => none
    | none => none
  | _ => none

variable {ρ : Rn} {h : XH} {H : AHeap}
theorem row_rep (R : HRep ρ h H) {b : Nat} {cs : List AV} (e : h.row b = some cs) : H (ρ.b b) = some (.cells (cs.map (ren ρ))) ∧ h.get b ≠ .gone := by
  unfold XH.row at e
  split at e
  · next n t hg =>
    cases e
    exact ⟨(cells_at R hg).1, by rw [hg]; simp⟩
  · cases e
theorem rowOf_spec (R : HRep ρ h H) {v : AV} {q : Nat × List Int} (e : rowOf h v = some q) : v = .osl q.1 0 q.2.length 1 ∧ H (ρ.b q.1) = some (.cells (q.2.map (.int .i64))) ∧ h.get q.1 ≠ .gone := by
  unfold rowOf at e
  split at e
  · next b k =>
    split at e
    · next cs hc =>
      split at e
      · next q' hq =>
        split at e
        · next hk =>
          cases e
          obtain ⟨h1, h2⟩ := row_rep R hc
          rw [intsOf_spec hq, List.map_map] at h1
          subst hk
          refine ⟨rfl, ?_, h2⟩
          rw [h1]
          congr 2
        · cases e
      · cases e
    · cases e
  · cases e
theorem rowsOf_spec (R : HRep ρ h H) : ∀ {l : List AV} {qs : List (Nat × List Int)}, rowsOf h l = some qs → l = qs.map (fun q => .osl q.1 0 q.2.length 1) ∧ ∀ q ∈ qs, H (ρ.b q.1) = some (.cells (q.2.map (.int .i64))) ∧ h.get q.1 ≠ .gone
  | [], qs, e => by cases e; exact ⟨rfl, fun q hq => by cases hq⟩
  | v :: l, qs, e => by
    unfold rowsOf at e
    split at e
    · next q qs' h1 h2 =>
      cases e
      obtain ⟨e1, e2⟩ := rowOf_spec R h1
      obtain ⟨e3, e4⟩ := rowsOf_spec R h2
      refine ⟨by rw [e1, e3]; rfl, fun x hx => ?_⟩
      rcases List.mem_cons.1 hx with rfl | hx
      · exact e2
      · exact e4 x hx
    · cases e
theorem ownRows_spec (R : HRep ρ h H) {v : AV} {b : Nat} {qs : List (Nat × List Int)} (e : ownRows h v = some (b, qs)) : ren ρ v = .osl (ρ.b b) 0 qs.length 1 ∧ RowsAt H (ρ.b b) (qs.map fun q => ρ.b q.1) (qs.map (·.2)) := by
  unfold ownRows at e
  split at e
  · next b' k =>
    split at e
    · next cs hc =>
      split at e
      · next qs' hq =>
        split at e
        · next hk =>
          cases e
          obtain ⟨rfl, hnd⟩ := hk
          obtain ⟨h1, h2⟩ := row_rep R hc
          obtain ⟨e3, e4⟩ := rowsOf_spec R hq
          have nd := nodupB_spec _ hnd
          rw [List.nodup_cons] at nd
          refine ⟨by simp [ren, R.s0], by simp, ?_, ?_, ?_, fun i q1 q2 => ?_⟩
          · unfold List.Nodup at nd ⊢
            rw [List.pairwise_map] at nd ⊢
            exact List.Pairwise.imp_of_mem (fun {x y} hx hy hne q => hne (R.inj _ _ (e4 x hx).2 (e4 y hy).2 q)) nd.2
          · intro hm
            obtain ⟨x, hx, q⟩ := List.mem_map.1 hm
            have := R.inj _ _ (e4 x hx).2 h2 q
            exact nd.1 (List.mem_map.2 ⟨x, hx, this⟩)
          · rw [h1, e3, List.map_map, List.zipWith_map]
            congr 2
            apply List.ext_getElem (by simp)
            intro i g1 g2
            simp [ren, R.s0]
          · simp only [List.getElem_map]
            exact (e4 _ (List.getElem_mem _)).1
        · cases e
      · cases e
    · cases e
  · cases e
end

section
theorem RowsAt.upd {H : AHeap} {bN : Nat} {bs : List Nat} {rows : List (List Int)} (R : RowsAt H bN bs rows) {b : Nat} {c : Chunk} (hN : bN ≠ b) (hb : b ∉ bs) : RowsAt (H.upd b c) bN bs rows :=
  ⟨R.len, R.nd, R.nN, by rw [AHeap.upd_ne hN]; exact R.top, fun i h1 h2 => by rw [AHeap.upd_ne (fun q : bs[i] = b => hb (by rw [← q]; exact List.getElem_mem h1))]; exact R.row i h1 h2⟩

theorem RowsAt.frz {H : AHeap} {bN : Nat} {bs : List Nat} {rows : List (List Int)} (R : RowsAt H bN bs rows) (k : Nat) : frzF (k + 3) H AHeap.empty (.osl bN 0 rows.length 1) = rowsA rows := by
  have hT : (List.zipWith (fun (b : Nat) (r : List Int) => AV.osl b 0 r.length 1) bs rows).length = rows.length := by simp [R.len]
  have e0 : ∀ b, AHeap.empty b = none := fun _ => rfl
  rw [frzF]
  simp only [R.top, e0]
  rw [if_pos (by omega), List.drop_zero, Nat.mul_one, List.take_of_length_le (by omega)]
  unfold rowsA
  congr 1
  refine List.ext_getElem (by simp [R.len]) fun i h1 h2 => ?_
  have hi : i < rows.length := by simpa using h2
  have hib : i < bs.length := by rw [R.len]; exact hi
  simp only [List.getElem_map, List.getElem_zipWith]
  rw [frzF]
  simp only [R.row i hib hi, e0]
  rw [if_pos (by simp), List.drop_zero, Nat.mul_one, List.take_of_length_le (by simp)]
  unfold intsA
  congr 1
  rw [List.map_map]
  apply List.map_congr_left
  intro x _
  simp only [Function.comp_apply]
  exact frz_bare rfl
end
end Go.AH
