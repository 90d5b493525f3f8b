/-
  Texts: WdBld WdBld2 WdBld3 WdBld4.
-/
import Derived.Test.YtobhipohnjmnhaaA3
import Derived.Below
import Derived.Test.YtobhipohnjmnhaaWdLay
import Derived.WalkKit
import Derived.BigCall
import Derived.Test.YtobhipohnjmnhaaV1
set_option linter.unusedSimpArgs false
set_option linter.unusedVariables false
set_option linter.unusedSectionVars false
section
/-
  Calls told of the world, as calls of the layer: what was there stays.
-/
namespace Go.Proofs
open Go Go.AH Go.RowKit
theorem ext_below {w w' : World} {g : AHeap} (x : Below w.heap.size w w') : Ext w g w' g :=
  ⟨x.size, fun b hb e => ⟨e, x.block b hb⟩, fun b cs e fr h => ⟨cs, fr, (x.block b (Array.getElem?_eq_some_iff.1 h).1).trans h, rfl⟩, x.os, x.tape, x.output⟩
theorem rel_below {w w' : World} {g : AHeap} (R : Rel w g) (x : Below w.heap.size w w') : Rel w' g :=
  R.step (ext_below x) fun i c e => .inl ⟨e, x.block i (R.lt e)⟩
theorem acalls_world {P : Program} {f : FuncId} {args : List AV} {h : AHeap} {r : AV} (he : ∀ (args : Array Value) (w : World), (callFunc f args).run P w = .ok (.enter f args) w)
    (hc : ∀ g w (vs : List Value), Rel w g → (∀ b c, h b = some c → g b = some c) → RepL w g vs args → Calls P f vs.toArray w fun e w' => ∃ v, e = .returned v ∧ Rep w' g v r ∧ Below w.heap.size w w') :
    ACalls P f args h fun r' h' => r' = r ∧ h' = h := by
  refine ⟨he, fun hf w vs D R A => ?_⟩
  have := hc (h.un hf) w vs R (fun b c e => by simp [AHeap.un, e]) A
  refine CallsIn.mono (callsIn_wide.2 this) ?_
  rintro e w' ⟨v, rfl, hr, hb⟩
  have hlt : ∀ b, hf b ≠ none → b < w.heap.size := fun b hb' => by
    cases e1 : (h.un hf) b with
    | some c => exact R.lt e1
    | none =>
      exfalso; apply hb'
      unfold AHeap.un at e1
      cases e2 : h b with
      | none => rw [e2] at e1; exact e1
      | some c => rw [e2] at e1; cases e1
  exact ⟨v, r, h, rfl, ⟨rfl, rfl⟩, D, rel_below R hb, hr, ext_below hb, fun b hb' => hb.block b (hlt b hb')⟩
end Go.Proofs

end

section
/-
  Walks told of the world: identity, with the library's builder.
-/
namespace Go.Proofs
open Go.RowKit
set_option maxHeartbeats 4000000 in
set_option maxRecDepth 1000000 in
theorem w_identity_w (n : Nat) (hn : n ≤ 100000) (w : World) :
    Calls Try.prog 127 #[.int .i64 n] w fun e w' => e = .returned (.string ⟨((List.range n).map fun i => UInt8.ofNat i).toArray⟩) ∧ Below w.heap.size w w' := by
  go_enter Try.func127, Try.ntmps127
  go_wp2
  go_loopw [6] (fun i wr => ∃ k : Nat, k ≤ n ∧ i = .int .i64 k ∧ Lib.IsBuilderF 136 5 w.heap.size w.heap.size (Lib.byteCells ((List.range k).map fun i => UInt8.ofNat i)) wr ∧ Below w.heap.size w wr) (fun i wr => n - (Lib.intOf i).toNat)
  case atStart =>
    exact ⟨0, Nat.zero_le _, rfl, Lib.IsBuilderF.of (Lib.fresh_isBuilder 136 5 w), (Below.refl _ w).alloc (Nat.le_refl _) _⟩
  case round =>
    obtain ⟨k, hk, rfl, hI, hbw⟩ := hrel
    by_cases hlt : k < n
    · have h8 : IntKind.u8.wrap (k : Int) = ((UInt8.ofNat k).toNat : Int) := by
        simp [IntKind.wrap, IntKind.bits, IntKind.signed]
      go_wp2_with (go_at_call 89; refine (Any.Builder_WriteByte_k bldL167 bldX w.heap.size w.heap.size _ _ _ hI (by rw [Lib.byteCells_length]; simp; omega) hbw.size).mono ?_)
      rintro e W1 ⟨rfl, h1, b1, k1⟩
      go_wp2
      go_roundw
      case rel =>
        refine ⟨k + 1, by omega, ?_, Or.inr ?_, hbw.trans b1⟩
        · congr 1
        · rw [List.range_succ, List.map_append, Lib.byteCells_append]
          have e : Lib.byteCells ([k].map fun i => UInt8.ofNat i) = [.int .u8 ((k : Int) % 256)] := by
            simp [Lib.byteCells]
          rw [e]
          exact h1
      case measure =>
        simp [Lib.intOf]; omega
    · obtain rfl : k = n := by omega
      go_wp2_with (go_at_call 90; refine (Any.Builder_String_any_k bldL169 bldX w.heap.size w.heap.size _ _ hI hbw.size).mono ?_)
      rintro e W1 ⟨rfl, _, b1, _⟩
      go_wp2
      go_ret
      exact ⟨rfl, hbw.trans b1⟩
end Go.Proofs

end

section
/-
  Walks told of the world: a letter behind a word's map, with the library's builder.
-/
namespace Go.Proofs
open Go Go.RowKit

/-- What the step makes of a map. -/
def behind (m : Dfa) (x : List UInt8) (i : Nat) : List UInt8 := x.map fun s => UInt8.ofNat ((m.next.getD s.toNat []).getD i 0)

set_option maxHeartbeats 4000000 in
set_option maxRecDepth 1000000 in
theorem w_monoid1_w (m : Dfa) (hn : m.next.length ≤ 128) (hlt : ∀ r ∈ m.next, ∀ x ∈ r, x < m.next.length) (x : List UInt8) (hx : ∀ s ∈ x, s.toNat < m.next.length) (hxl : x.length ≤ 100000) (i : Nat) (hi : i < m.k) (hi4 : i < 4) (w : World)
    (b off b1 o1 c1 : Nat) (hb : b < w.heap.size) (hb1 : b1 < w.heap.size) (hfld : w.cell? ⟨b, off + 1, none⟩ = some (.slice (some ⟨b1, o1, none⟩) m.next.length c1))
    (hrow : ∀ s, s < m.next.length → ∃ b2 o2 c2, b2 < w.heap.size ∧ w.cell? ⟨b1, o1 + s, none⟩ = some (.slice (some ⟨b2, o2, none⟩) m.k c2) ∧ w.cell? ⟨b2, o2 + i, none⟩ = some (.int .i64 ((m.next.getD s []).getD i 0 : Nat))) :
    Calls Try.prog 128 #[.string ⟨x.toArray⟩, .int .i64 i, .pointer (some ⟨b, off, none⟩)] w fun e w' => e = .returned (.string ⟨(behind m x i).toArray⟩) ∧ Below w.heap.size w w' := by
  go_enter Try.func128, Try.ntmps128
  go_wp2
  go_loopw [] (fun wr => ∃ (pos : Nat), pos ≤ x.length ∧ Lib.IsBuilderF 136 5 w.heap.size w.heap.size (Lib.byteCells ((x.take pos).map fun s => UInt8.ofNat ((m.next.getD s.toNat []).getD i 0))) wr ∧ wr.heap[w.heap.size + 1]? = some (.stringIter ⟨x.toArray⟩ pos) ∧ Below w.heap.size w wr) (fun wr => x.length - wr.iterPos (w.heap.size + 1))
  case atStart =>
    refine ⟨0, Nat.zero_le _, ?_, ?_, ((Below.refl _ w).alloc (Nat.le_refl _) _).alloc (by simp) _⟩
    · exact (Lib.IsBuilderF.of (Lib.fresh_isBuilder 136 5 w)).alloc _
    · have := World.iter_heap (w.alloc (.cells #[.pointer none, .slice none 0 0] 136)) ⟨x.toArray⟩ 0
      simpa using this
  case round =>
    obtain ⟨pos, hpl, hI, hit, hbw⟩ := hrel
    have hsz : w.heap.size + 1 < wr.heap.size := (Array.getElem?_eq_some_iff.1 hit).1
    have hsize : (⟨x.toArray⟩ : ByteArray).size = x.length := by simp [ByteArray.size]
    by_cases hp : pos < x.length
    · have hp' : pos < (⟨x.toArray⟩ : ByteArray).size := by rw [hsize]; exact hp
      have hget : (⟨x.toArray⟩ : ByteArray)[pos]'hp' = x[pos] := rfl
      have hs := hx x[pos] (List.getElem_mem hp)
      have hnx : ∀ ty, (Instr.next (.pointer (some ⟨w.heap.size + 1, 0, none⟩)) true ty).run Try.prog wr = .ok (.tuple #[.bool true, .int .i64 pos, .int .i32 (x[pos].toNat : Nat)]) (wr.iterAt (w.heap.size + 1) ⟨x.toArray⟩ (pos + 1)) := fun ty => by
        have := Lib.run_next_ascii_at (P := Try.prog) wr (w.heap.size + 1) ⟨x.toArray⟩ pos ty hit hp' (by rw [hget]; omega)
        rw [hget] at this
        exact this
      have hI2 := hI.iterAt hit (pos + 1)
      have hit2 := Lib.iterAt_heap wr (w.heap.size + 1) ⟨x.toArray⟩ pos (pos + 1) hit
      have hbw2 := Lib.below_iterAt hbw (k := w.heap.size + 1) (by omega) ⟨x.toArray⟩ (pos + 1)
      obtain ⟨b2, o2, c2, hb2, hr1, hr2⟩ := hrow x[pos].toNat hs
      have f1 := (hbw2.cell (p := ⟨b, off + 1, none⟩) hb).trans hfld
      have f2 := (hbw2.cell (p := ⟨b1, o1 + x[pos].toNat, none⟩) hb1).trans hr1
      have f3 := (hbw2.cell (p := ⟨b2, o2 + i, none⟩) hb2).trans hr2
      generalize hW : wr.iterAt (w.heap.size + 1) ⟨x.toArray⟩ (pos + 1) = W at hnx hI2 hit2 hbw2 f1 f2 f3
      generalize hy : (m.next.getD x[pos].toNat []).getD i 0 = y at f3
      go_wp2_with (go_at_call 89; refine (Any.Builder_WriteByte_k bldL167 bldX w.heap.size w.heap.size _ _ _ hI2 (by rw [Lib.byteCells_length]; simp; omega) hbw2.size).mono ?_)
      rintro e W1 ⟨rfl, h1, b1, k1⟩
      go_wp2
      go_roundw
      case rel =>
        refine ⟨pos + 1, by omega, Or.inr ?_, k1.iter hit2 (by omega), hbw2.trans b1⟩
        rw [List.take_succ_eq_append_getElem hp, List.map_append, Lib.byteCells_append]
        have e : Lib.byteCells ([x[pos]].map fun s => UInt8.ofNat ((m.next.getD s.toNat []).getD i 0)) = [.int .u8 ((y : Int) % 256)] := by
          simp only [List.map_cons, List.map_nil, hy]
          simp [Lib.byteCells]
        rw [e]
        exact h1
      case measure =>
        simp only [World.iterPos, k1.iter hit2 (by omega), hit]
        omega
    · obtain rfl : pos = x.length := by omega
      have hnx : ∀ ty, (Instr.next (.pointer (some ⟨w.heap.size + 1, 0, none⟩)) true ty).run Try.prog wr = _ := fun ty => Lib.run_next_end_at wr (w.heap.size + 1) ⟨x.toArray⟩ x.length ty hit (by rw [hsize]; omega)
      go_wp2_with (go_at_call 90; refine (Any.Builder_String_any_k bldL169 bldX w.heap.size w.heap.size _ _ hI hbw.size).mono ?_)
      rintro e W1 ⟨rfl, _, b1, _⟩
      go_wp2
      go_ret
      exact ⟨by simp [behind], hbw.trans b1⟩
end Go.Proofs

end

section
/-
  identity and monoid's step, as calls of the layer.
-/
namespace Go.Proofs
open Go Go.AH Go.RowKit
set_option maxRecDepth 10000
set_option maxHeartbeats 4000000

def idS (n : Nat) : List UInt8 := (List.range n).map fun i => UInt8.ofNat i
theorem w_identity (n : Nat) (hn : n ≤ 100000) : AH.Pure Try.prog 127 [.int .i64 n] (.str (idS n)) := by
  intro H
  refine acalls_world Try.call127 fun g w vs R hg A => ?_
  obtain ⟨v, rfl⟩ : ∃ v, vs = [v] := by
    have := A.1
    match vs, this with
    | [v], _ => exact ⟨v, rfl⟩
  have h0 := A.2 0 (by simp) (by simp)
  obtain rfl := Rep.inv_int h0
  refine (w_identity_w n hn w).mono ?_
  rintro e w' ⟨rfl, hb⟩
  refine ⟨_, rfl, ?_, hb⟩
  have := Rep.str (w := w') (h := g) ⟨(idS n).toArray⟩
  simp at this
  exact this

/-- Row i of read-only rows. -/
theorem rep_sl_cons {w : World} {g : AHeap} {v : Value} {n : Nat} {c : AV} {cs : List AV} (r : Rep w g v (.sl n (c :: cs))) : ∃ b off cap, ∃ vs : Nat → Value, v = .slice (some ⟨b, off, none⟩) n cap ∧ b < w.heap.size ∧
    (∀ i, i < (c :: cs).length → w.cell? ⟨b, off + i, none⟩ = some (vs i)) ∧ ∀ i (hi : i < (c :: cs).length), Rep w g (vs i) (c :: cs)[i] := by
  cases r with
  | sl hn hb hlt hc ho hr => exact ⟨_, _, _, _, rfl, hlt, hc, hr⟩
theorem rep_fptr {w : World} {g : AHeap} {v : Value} {cs : List AV} (r : Rep w g v (.fptr cs)) : ∃ b off, ∃ vs : Nat → Value, v = .pointer (some ⟨b, off, none⟩) ∧ b < w.heap.size ∧
    (∀ i, i < cs.length → w.cell? ⟨b, off + i, none⟩ = some (vs i)) ∧ ∀ i (hi : i < cs.length), Rep w g (vs i) cs[i] := by
  cases r with
  | fptr hb hlt hc ho hr => exact ⟨_, _, _, rfl, hlt, hc, hr⟩
theorem rep_sl {w : World} {g : AHeap} {v : Value} {n : Nat} {l : List AV} (hl : l ≠ []) (r : Rep w g v (.sl n l)) : ∃ b off cap, ∃ vs : Nat → Value, v = .slice (some ⟨b, off, none⟩) n cap ∧ b < w.heap.size ∧
    (∀ i, i < l.length → w.cell? ⟨b, off + i, none⟩ = some (vs i)) ∧ ∀ i (hi : i < l.length), Rep w g (vs i) l[i] := by
  match l, hl with
  | c :: cs, _ => exact rep_sl_cons r

/-- A pointer at an own row. -/
theorem rep_own {w : World} {g : AHeap} {b : Nat} {cells : List AV} (R : Rel w g) (e : g b = some (.cells cells)) : b < w.heap.size ∧ ∃ vs : Nat → Value,
    (∀ i, i < cells.length → w.cell? ⟨b, i, none⟩ = some (vs i)) ∧ ∀ i (hi : i < cells.length), Rep w g (vs i) cells[i] := by
  obtain ⟨vs, ty, h1, h2, h3, h4⟩ := R b _ e
  refine ⟨(Array.getElem?_eq_some_iff.1 h1).1, fun i => vs.getD i Go.undef, fun i hi => ?_, fun i hi => ?_⟩
  · have : i < vs.size := by omega
    simp [World.cell?, h1, this]
  · have hv : i < vs.size := by omega
    have := h4 i hi hv
    simpa [hv] using this

theorem w_monoid1 (m : Dfa) (hm : m.wf) (hn : m.next.length ≤ 128) (good : AV) (k0 : AV) (x : List UInt8) (hx : ∀ s ∈ x, s.toNat < m.next.length) (hxl : x.length ≤ 100000) (i : Nat) (hi : i < m.k) (H : AHeap) (b : Nat) (hH : H b = some (.cells [k0, nrowsA m.next, good])) :
    ACalls Try.prog 128 [.str x, .int .i64 i, .ptr b 0] H fun r h' => r = .str (behind m x i) ∧ h' = H := by
  have hn1 := hm.n1
  have hk4 := hm.k4
  refine acalls_world Try.call128 fun g w vs R hg A => ?_
  obtain ⟨v0, vs, rfl, r0, A⟩ := A.uncons
  obtain ⟨v1, vs, rfl, r1, A⟩ := A.uncons
  obtain ⟨v2, vs, rfl, r2, A⟩ := A.uncons
  obtain rfl : vs = [] := List.eq_nil_of_length_eq_zero A.1
  obtain ⟨s, rfl, hs⟩ := Rep.inv_str r0
  obtain rfl := Rep.inv_int r1
  obtain rfl := Rep.inv_ptr r2
  obtain ⟨hb, fv, hc, hr⟩ := rep_own R (hg b _ hH)
  obtain rfl : s = ⟨x.toArray⟩ := by
    cases s with
    | mk a => simp only at hs; rw [← hs]
  have hr1 := hr 1 (by simp)
  have hne : m.next.map natsA ≠ [] := by intro e; have := congrArg List.length e; simp at this; rw [this] at hn1; simp at hn1
  obtain ⟨b1, o1, c1, fv1, e1, hb1, hc1, hr1⟩ := rep_sl (l := m.next.map natsA) hne hr1
  have hfld := hc 1 (by simp)
  rw [e1] at hfld
  refine (w_monoid1_w m hn hm.lt x hx hxl i hi (by omega) w b 0 b1 o1 c1 hb hb1 hfld ?_).mono ?_
  · intro s hs
    have h1 := hc1 s (by simpa using hs)
    have h2 := hr1 s (by simpa using hs)
    have hrl : m.next[s].length = m.k := hm.rl _ (List.getElem_mem hs)
    have h2' : Rep w g (fv1 s) (.sl m.next[s].length (m.next[s].map fun x : Nat => AV.int .i64 (x : Int))) := by simpa [natsA] using h2
    obtain ⟨b2, o2, c2, fv2, e2, hb2, hc2, hr2⟩ := rep_sl (l := m.next[s].map fun x : Nat => AV.int .i64 (x : Int)) (by intro e; have := congrArg List.length e; simp at this; rw [this] at hrl; simp at hrl; omega) h2'
    rw [e2, hrl] at h1
    have h3 := hc2 i (by simp; omega)
    have h4 := hr2 i (by simp; omega)
    simp only [List.getElem_map] at h4
    rw [Rep.inv_int h4] at h3
    refine ⟨b2, o2, c2, hb2, h1, ?_⟩
    have e3 : (m.next.getD s []).getD i 0 = m.next[s][i]'(by omega) := by simp [hs, hrl, hi]
    rw [e3]; exact h3
  · rintro e w' ⟨rfl, hb⟩
    refine ⟨_, rfl, ?_, hb⟩
    have := Rep.str (w := w') (h := g) ⟨(behind m x i).toArray⟩
    simp at this
    exact this
end Go.Proofs

end
