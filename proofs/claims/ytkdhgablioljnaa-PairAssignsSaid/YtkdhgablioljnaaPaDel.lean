/-
  slices.Delete, of rows of numbers: the shelf's contract, as a call of the layer.
-/
import Derived.Test.YtkdhgablioljnaaPaLay
import Derived.Test.YtkdhgablioljnaaAhXm
set_option linter.unusedSimpArgs false
set_option linter.unusedVariables false
set_option linter.unusedSectionVars false
namespace Go.Proofs
open Go Go.AH Go.Sort
theorem isI64_ints : ∀ {l : List AV}, (∀ x ∈ l, isI64 x = true) → ∃ zs : List Int, l = zs.map (.int .i64)
  | [], _ => ⟨[], rfl⟩
  | a :: l, h => by
    obtain ⟨zs, e⟩ := isI64_ints (fun x hx => h x (List.mem_cons_of_mem _ hx))
    have ha := h a List.mem_cons_self
    unfold isI64 at ha
    split at ha
    · next n => exact ⟨n :: zs, by rw [e]; rfl⟩
    · cases ha
theorem only_putRow {w : World} {q b o : Nat} {d : Array Int} : Only w (putRow encI (Sort.ahead w q) b o d) b := by
  refine ⟨by simp, fun k hk => ?_, rfl, rfl, rfl⟩
  show ((Sort.ahead w q).heap.modify b _)[k]? = _
  rw [Array.getElem?_modify, if_neg (fun e => hk e.symm)]; rfl
theorem putRow_at {w : World} {q b o : Nat} {d : Array Int} {cs : Array Value} {e : TypeId} {fr : Nat × Nat} (h : w.heap[b]? = some (.cells cs e fr)) : (putRow encI (Sort.ahead w q) b o d).heap[b]? = some (.cells (putCells encI o d cs) e fr) := by
  show ((Sort.ahead w q).heap.modify b _)[b]? = _
  rw [Array.getElem?_modify, if_pos rfl]
  show Option.map _ (w.heap[b]?) = _
  rw [h]; rfl
theorem del_of {P : Program} {f : FuncId} (he : ∀ (args : Array Value) (w : World), (callFunc f args).run P w = .ok (.enter f args) w)
    (hc : ∀ (blk off cap i j : Nat) (zs : List Int) (w : World), Holds (Value.int .i64) w blk off zs.toArray → zs.length ≤ cap → cap ≤ 9223372036854775807 → i ≤ j → j ≤ zs.length →
      Calls P f #[.slice (some ⟨blk, off, none⟩) zs.length cap, .int .i64 i, .int .i64 j] w fun e w' => e = .returned (.slice (some ⟨blk, off, none⟩) (zs.length - (j - i)) cap) ∧ ∃ q, w' = putRow (Value.int .i64) (Sort.ahead w q) blk off (zs.take i ++ zs.drop j ++ List.replicate (j - i) 0).toArray) : DelC P f := by
  intro h b off n i j cs hb hlen hI hij hj
  obtain ⟨zs, hz⟩ := isI64_ints hI
  have hzl : zs.length = n := by
    have := congrArg List.length hz
    simp at this
    omega
  refine ⟨he, fun hf w vs D R A => ?_⟩
  have hg : (h.un hf) b = some (.cells cs) := AHeap.un_some hb
  obtain ⟨va, v2, rfl, r1, A2⟩ := A.uncons
  obtain ⟨vb, v3, rfl, r2, A3⟩ := A2.uncons
  obtain ⟨vc, v4, rfl, r3, A4⟩ := A3.uncons
  obtain rfl : v4 = [] := List.eq_nil_of_length_eq_zero A4.1
  rw [r2.inv_int, r3.inv_int]
  obtain ⟨c, o, rfl, hn, hO, arr, te, fr, k1, k2⟩ := r1.inv_osl
  obtain ⟨us, ty, h1, h2, h3, h4⟩ := R b _ hg
  rw [k1] at h1
  cases h1
  -- the row in the world
  have hat : ∀ t, t < n → o = off → w.cell? ⟨b, o + t, none⟩ = some (.int .i64 (zs[t]!)) := by
    rintro t ht rfl
    have hi : o + t < arr.size := by omega
    have hj' : o + t < cs.length := by omega
    have r := h4 (o + t) hj' hi
    have e : cs[o + t] = .int .i64 (zs[t]!) := by
      have q := congrArg (fun l => l[t]?) hz
      simp only [List.getElem?_take, List.getElem?_drop, List.getElem?_map, ht, if_true] at q
      rw [List.getElem?_eq_getElem hj', List.getElem?_eq_getElem (by omega : t < zs.length)] at q
      simp at q
      rw [q]; simp [show t < zs.length by omega]
    rw [e] at r
    simp [World.cell?, k1, hi, r.inv_int]
  have hH : Holds (Value.int .i64) w b o zs.toArray := by
    intro t ht
    have ht : t < n := by simpa [hzl] using ht
    have ho : o = off := hO.1.resolve_right (by omega)
    refine ⟨by rw [hat t ht ho]; simp, by simp [World.frozen?, k1]⟩
  have call := hc b o c i j zs w hH (by omega) (by omega) hij (by omega)
  rw [hzl] at call
  refine CallsIn.mono (callsIn_wide.2 call) ?_
  rintro e w' ⟨rfl, q, rfl⟩
  have hfb : hf b = none := D.none_right hb
  obtain ⟨zs', hzs'⟩ : ∃ zs', zs' = zs.take i ++ zs.drop j ++ List.replicate (j - i) 0 := ⟨_, rfl⟩
  rw [← hzs']
  have hl' : zs'.length = n := by rw [hzs']; simp; omega
  have hdel : delL ((cs.drop off).take n) i j = zs'.map (.int .i64) := by rw [hz, hzs']; simp [delL, List.map_take, List.map_drop]
  rw [hdel]
  have hat' := putRow_at (q := q) (o := o) (d := zs'.toArray) k1
  have hszp : (putCells encI o zs'.toArray arr).size = arr.size := by simp [putCells]
  obtain ⟨x1, R1⟩ := R.upd (c := .cells (splice cs off (zs'.map (.int .i64)))) hg (only_putRow (q := q) (o := o) (d := zs'.toArray)) (fun cs0 e0' fr0 hc => by
      rw [k1] at hc; cases hc; exact ⟨_, (0, 0), hat', hszp⟩) (fun x1 => by
    refine ⟨_, te, hat', by rw [hszp]; simp [splice]; omega, ?_, fun t ht1 ht2 => ?_⟩
    · intro y hy
      unfold splice at hy
      rcases List.mem_append.1 hy with hy | hy
      · rcases List.mem_append.1 hy with hy | hy
        · exact h3 y (List.mem_of_mem_take hy)
        · obtain ⟨z, _, rfl⟩ := List.mem_map.1 hy; rfl
      · exact h3 y (List.mem_of_mem_drop hy)
    · have ht3 : t < arr.size := by rw [hszp] at ht2; exact ht2
      have hsl : (splice cs off (zs'.map (.int .i64))).length = cs.length := by simp [splice]; omega
      have ht4 : t < cs.length := by rw [hsl] at ht1; exact ht1
      have old := (h4 t ht4 ht3).ext x1
      simp only [putCells, Array.getElem_mapIdx]
      by_cases hn0 : n = 0
      · have : zs' = [] := List.eq_nil_of_length_eq_zero (by omega)
        subst this
        rw [if_neg (by simp)]
        have : (splice cs off (([] : List Int).map (AV.int .i64)))[t] = cs[t] := by simp [splice]
        rw [this]; exact old
      · have ho : o = off := hO.1.resolve_right (by omega)
        subst ho
        by_cases hr : o ≤ t ∧ t < o + n
        · rw [if_pos (by simp [hl']; exact hr)]
          have e : (splice cs o (zs'.map (.int .i64)))[t] = .int .i64 (zs'[t - o]!) := by
            rw [List.getElem_eq_iff]
            unfold splice
            rw [List.append_assoc, List.getElem?_append_right (by simp; omega), List.getElem?_append_left (by simp; omega)]
            simp [Nat.min_eq_left (show o ≤ cs.length by omega), show t - o < zs'.length by omega]
          rw [e]
          have : zs'.toArray[t - o]! = zs'[t - o]! := by simp
          rw [this]
          exact .int _ _
        · rw [if_neg (by simp [hl']; omega)]
          have e : (splice cs o (zs'.map (.int .i64)))[t] = cs[t] := by
            rw [List.getElem_eq_iff]
            unfold splice
            rw [List.append_assoc]
            by_cases hlt : t < o
            · rw [List.getElem?_append_left (by simp; omega), List.getElem?_take, if_pos hlt, List.getElem?_eq_getElem ht4]
            · rw [List.getElem?_append_right (by simp; omega), List.getElem?_append_right (by simp; omega), List.getElem?_drop]
              simp only [List.length_take, List.length_map, hl', Nat.min_eq_left (show o ≤ cs.length by omega)]
              rw [show o + n + (t - o - n) = t from by omega, List.getElem?_eq_getElem ht4]
          rw [e]; exact old)
  refine ⟨_, _, h.upd b (.cells (splice cs off (zs'.map (.int .i64)))), rfl, ⟨rfl, rfl⟩, D.upd hfb, by rw [AHeap.un_upd]; exact R1, ?_, .only (by rw [AHeap.un_upd]; exact x1) (only_putRow) hfb⟩
  exact .osl (by omega) hO ⟨_, te, (0, 0), hat', by rw [hszp]; exact k2⟩
theorem del_int : DelC Try.prog 57 := del_of Try.call57 fun blk off cap i j zs w hH h1 h2 h3 h4 => AnyG.slices_Delete_int dlLi blk off cap i j zs w hH h1 h2 h3 h4
theorem del_int64 : DelC Try.prog 81 := del_of Try.call81 fun blk off cap i j zs w hH h1 h2 h3 h4 => AnyG.slices_Delete_int dlLl blk off cap i j zs w hH h1 h2 h3 h4
end Go.Proofs
