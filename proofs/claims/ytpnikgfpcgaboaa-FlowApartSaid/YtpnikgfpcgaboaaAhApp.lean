/-
  An append, told in full: in place, or into a new block while the old one stays as it was.
-/
import Derived.Test.YtpnikgfpcgaboaaA2
set_option linter.unusedSimpArgs false
set_option linter.unusedVariables false
set_option linter.unusedSectionVars false
namespace Go.AH
open Go

section
variable {P : Program} {w : World} {g h hf : AHeap} {t : AF} {ρ : Operand → Value} {o : Oper}

theorem eff_append_keep (D : Disj h hf) (R : Rel w (h.un hf)) (hρ : RepO w (h.un hf) ρ t) {K : AV → AHeap → Prop} {args : Array Operand} {argTypes : Array TypeId} {s x : Operand} {ts tx : TypeId} (ho : o.op = .call { callee := .builtin .append, args, argTypes })
    (ha : args.toList = [s, x]) (hat : argTypes.toList = [ts, tx]) {e : TypeId} {es by_ : Nat} {z : List AV} (he : elemT P ts = some (e, es, by_, z)) (hi : rowT P tx = true)
    {k : Nat} {xs : List AV} (hxs : appXs h es (evalA t x) = some (k, xs)) {b off n : Nat} {cs : List AV} (hs : evalA t s = .osl b off n es) (hb : h b = some (.cells cs)) (hle : off + n * es ≤ cs.length) (hsm : n + k < 2 ^ 30)
    (k1 : K (.osl b off (n + k) es) (h.upd b (.cells (cs.take (off + n * es) ++ xs)))) (k2 : ∀ b', h b' = none → K (.osl b' 0 (n + k) es) (h.upd b' (.cells ((cs.drop off).take (n * es) ++ xs)))) : EffOut P w h hf ρ o K := by
  have ea : args = #[s, x] := by cases args; simpa using ha
  have eat : argTypes = #[ts, tx] := by cases argTypes; simpa using hat
  have hrun : ∀ v w', (Builtin.append_ #[ts, tx] o.type #[ρ s, ρ x]).run P w = .ok v w' → (execOp ρ o).run P w = .ok (.value v) w' := by
    intro v w' hr
    simp [execOp, ho, resolve, invoke, builtin, ea, eat, hr]
  obtain ⟨hl, hxl, hxo, hxc⟩ := appXs_sound (P := P) R (hρ x) hxs
  have Rd := R.ofDrew
  have hρx' : Rep w.drew (h.un hf) (ρ x) (evalA t x) := (hρ x).ext ((Ext.refl w _).drew)
  obtain ⟨_, _, _, hxc'⟩ := appXs_sound (P := P) Rd hρx' hxs
  obtain ⟨cp, hsv, hncp, arr, te, fr, ha1, ha2⟩ := (hs ▸ hρ s : Rep w (h.un hf) (ρ s) (.osl b off n es)).inv_osl
  obtain ⟨us, ty, h1, h2, h3, h4⟩ := R b _ (AHeap.un_some hb)
  rw [ha1] at h1
  cases h1
  have hfb : hf b = none := D.none_right hb
  by_cases hroom : n + k ≤ cp
  · obtain ⟨vs, hv1, hv2⟩ := hxc k (Nat.le_refl _)
    rw [List.take_of_length_le (by omega)] at hv2
    have hvl : vs.length = k * es := by have := hv2.1; omega
    have hfit : off + n * es + k * es ≤ arr.size := by rw [Nat.add_assoc, ← Nat.add_mul]; exact Nat.le_trans (Nat.add_le_add_left (Nat.mul_le_mul_right _ hroom) _) (by omega)
    obtain ⟨w', arr', e1, e2, e3, e4⟩ := run_storeCells (P := P) vs 0 w (off + n * es) arr te ha1 (by omega) (hv2.ones hxo)
    have hsz : arr'.size = arr.size := by
      have := congrArg List.length e4
      simp at this
      omega
    obtain ⟨x1, R1⟩ := R.upd (c := .cells (cs.take (off + n * es) ++ xs)) (AHeap.un_some hb) e2 (fun cs0 e0' fr0 hc => by rw [ha1] at hc; cases hc; exact ⟨arr', (0, 0), e3, hsz⟩) (fun x1 => by
      refine ⟨arr', te, e3, by rw [List.length_append, List.length_take]; omega, ?_, ?_⟩
      · intro y hy
        rcases List.mem_append.1 hy with hy | hy
        · exact h3 y (List.mem_of_mem_take hy)
        · exact hxo y hy
      · have r0 : RepL w (h.un hf) (arr.toList.take (off + n * es)) (cs.take (off + n * es)) := ⟨by simp; omega, fun i hi hj => by simpa using h4 i (by simp at hj; omega) (by simp at hi; omega)⟩
        have r1 := r0.append hv2
        have e5 : arr'.toList.take (cs.take (off + n * es) ++ xs).length = arr.toList.take (off + n * es) ++ vs := by
          rw [e4, Nat.add_zero, List.length_append, List.length_take, Nat.min_eq_left hle, hxl, ← hvl]
          rw [List.take_append_of_le_length (by simp; omega), List.take_of_length_le (by simp; omega)]
        rw [← e5] at r1
        intro i hi hj
        have h6 : i < (arr'.toList.take (cs.take (off + n * es) ++ xs).length).length := by have := r1.1; omega
        have := (r1.2 i h6 hi).ext x1
        simpa using this)
    refine ⟨.slice (some ⟨b, off, none⟩) (n + k) cp, w', .osl b off (n + k) es, h.upd b (.cells (cs.take (off + n * es) ++ xs)), .inl (hrun _ _ ?_), k1, ?_, ?_, ?_, ?_⟩
    · rw [hsv, run_append_room' he hi hroom hl hv1]
      simp only [add_none, e1, Result.andThen]
    · exact .osl hroom ⟨arr', te, (0, 0), e3, by omega⟩
    · exact D.upd hfb
    · rw [AHeap.un_upd]; exact R1
    · exact .only (by rw [AHeap.un_upd]; exact x1) e2 hfb
  · obtain ⟨vs, hv1, hv2⟩ := hxc' k (Nat.le_refl _)
    rw [List.take_of_length_le (by omega)] at hv2
    have hvl : vs.length = k * es := by have := hv2.1; omega
    have hcells := ((Rel.cells Rd (AHeap.un_some (g := hf) hb)).drop off).take (n * es)
    rw [Nat.zero_add] at hcells
    obtain ⟨ho1, us, hu1, hu2⟩ := hcells
    have hcl : ((cs.drop off).take (n * es)).length = n * es := by simp; omega
    have hold : (Builtin.firstCells es n (.slice (some ⟨b, off, none⟩) n cp)).run P w.drew = .ok ((List.range (n * es)).map us).toArray w.drew := by
      simp only [Builtin.firstCells]
      exact run_loadCells (P := P) (fun j hj => hu1 j (by omega))
    have hor : RepL w.drew (h.un hf) ((List.range (n * es)).map us) ((cs.drop off).take (n * es)) := ⟨by simp; omega, fun i hi hj => by simp only [List.getElem_map, List.getElem_range]; exact hu2 i hj⟩
    obtain ⟨ncs, cap, c1, c2, c3, c4⟩ := run_append_new (w := w) he hi (rt := o.type) (base := some ⟨b, off, none⟩) (n := n) (c := cp) (by omega) hsm hl hold hv1 (by simp) hvl
    have hones : ∀ y ∈ (cs.drop off).take (n * es) ++ xs, y.one = true := by
      intro y hy
      rcases List.mem_append.1 hy with hy | hy
      · exact h3 y (List.mem_of_mem_drop (List.mem_of_mem_take hy))
      · exact hxo y hy
    obtain ⟨xx, R1⟩ := new_cells (w := w.drew) (g := h.un hf) Rd (e := e) (vs := ncs) (cs := (cs.drop off).take (n * es) ++ xs) (by
        rw [List.length_append, hcl, hxl, ← Nat.add_mul, c3]; exact hor.append hv2) hones
    have xx' : Ext w (h.un hf) (w.drew.alloc (.cells ncs e)) ((h.un hf).upd w.heap.size (.cells ((cs.drop off).take (n * es) ++ xs))) := ((Ext.refl w _).drew).trans xx
    exact eff_new D R (v := .slice (some ⟨w.heap.size, 0, none⟩) (n + k) cap) (hrun _ _ (by rw [hsv]; exact c4)) xx' R1 (k2 _ (fresh_both R).1) (.osl c1 ⟨ncs, e, (0, 0), alloc_at w.drew _, by omega⟩) (alloc_old w.drew _)
end
end Go.AH
