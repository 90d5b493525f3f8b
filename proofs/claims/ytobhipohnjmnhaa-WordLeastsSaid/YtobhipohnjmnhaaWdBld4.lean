/-
  identity and monoid's step, as calls of the layer.
-/
import Derived.Test.YtobhipohnjmnhaaWdBld3
set_option linter.unusedSimpArgs false
set_option linter.unusedVariables false
set_option linter.unusedSectionVars false
namespace Go.Proofs
open Go Go.AH Go.RowKit
set_option maxRecDepth 10000
set_option maxHeartbeats 4000000

def idS (n : Nat) : List UInt8 := (List.range n).map fun i => UInt8.ofNat i
theorem w_identity (n : Nat) (hn : n ≤ 100000) : AH.Pure Try.prog 127 [.int .i64 n] (.str (idS n)) := by
  intro H
  refine acalls_world Try.call127 fun g w vs R hg A => ?_
  obtain ⟨v, rfl⟩ : ∃ v, vs = [v] := by
    have := A.1
    match vs, this with
    | [v], _ => exact ⟨v, rfl⟩
  have h0 := A.2 0 (by simp) (by simp)
  obtain rfl := Rep.inv_int h0
  refine (w_identity_w n hn w).mono ?_
  rintro e w' ⟨rfl, hb⟩
  refine ⟨_, rfl, ?_, hb⟩
  have := Rep.str (w := w') (h := g) ⟨(idS n).toArray⟩
  simp at this
  exact this

/-- Row i of read-only rows. -/
theorem rep_sl_cons {w : World} {g : AHeap} {v : Value} {n : Nat} {c : AV} {cs : List AV} (r : Rep w g v (.sl n (c :: cs))) : ∃ b off cap, ∃ vs : Nat → Value, v = .slice (some ⟨b, off, none⟩) n cap ∧ b < w.heap.size ∧
    (∀ i, i < (c :: cs).length → w.cell? ⟨b, off + i, none⟩ = some (vs i)) ∧ ∀ i (hi : i < (c :: cs).length), Rep w g (vs i) (c :: cs)[i] := by
  cases r with
  | sl hn hb hlt hc ho hr => exact ⟨_, _, _, _, rfl, hlt, hc, hr⟩
theorem rep_fptr {w : World} {g : AHeap} {v : Value} {cs : List AV} (r : Rep w g v (.fptr cs)) : ∃ b off, ∃ vs : Nat → Value, v = .pointer (some ⟨b, off, none⟩) ∧ b < w.heap.size ∧
    (∀ i, i < cs.length → w.cell? ⟨b, off + i, none⟩ = some (vs i)) ∧ ∀ i (hi : i < cs.length), Rep w g (vs i) cs[i] := by
  cases r with
  | fptr hb hlt hc ho hr => exact ⟨_, _, _, rfl, hlt, hc, hr⟩
theorem rep_sl {w : World} {g : AHeap} {v : Value} {n : Nat} {l : List AV} (hl : l ≠ []) (r : Rep w g v (.sl n l)) : ∃ b off cap, ∃ vs : Nat → Value, v = .slice (some ⟨b, off, none⟩) n cap ∧ b < w.heap.size ∧
    (∀ i, i < l.length → w.cell? ⟨b, off + i, none⟩ = some (vs i)) ∧ ∀ i (hi : i < l.length), Rep w g (vs i) l[i] := by
  match l, hl with
  | c :: cs, _ => exact rep_sl_cons r

/-- A pointer at an own row. -/
theorem rep_own {w : World} {g : AHeap} {b : Nat} {cells : List AV} (R : Rel w g) (e : g b = some (.cells cells)) : b < w.heap.size ∧ ∃ vs : Nat → Value,
    (∀ i, i < cells.length → w.cell? ⟨b, i, none⟩ = some (vs i)) ∧ ∀ i (hi : i < cells.length), Rep w g (vs i) cells[i] := by
  obtain ⟨vs, ty, h1, h2, h3, h4⟩ := R b _ e
  refine ⟨(Array.getElem?_eq_some_iff.1 h1).1, fun i => vs.getD i Go.undef, fun i hi => ?_, fun i hi => ?_⟩
  · have : i < vs.size := by omega
    simp [World.cell?, h1, this]
  · have hv : i < vs.size := by omega
    have := h4 i hi hv
    simpa [hv] using this

theorem w_monoid1 (m : Dfa) (hm : m.wf) (hn : m.next.length ≤ 128) (good : AV) (k0 : AV) (x : List UInt8) (hx : ∀ s ∈ x, s.toNat < m.next.length) (hxl : x.length ≤ 100000) (i : Nat) (hi : i < m.k) (H : AHeap) (b : Nat) (hH : H b = some (.cells [k0, nrowsA m.next, good])) :
    ACalls Try.prog 128 [.str x, .int .i64 i, .ptr b 0] H fun r h' => r = .str (behind m x i) ∧ h' = H := by
  have hn1 := hm.n1
  have hk4 := hm.k4
  refine acalls_world Try.call128 fun g w vs R hg A => ?_
  obtain ⟨v0, vs, rfl, r0, A⟩ := A.uncons
  obtain ⟨v1, vs, rfl, r1, A⟩ := A.uncons
  obtain ⟨v2, vs, rfl, r2, A⟩ := A.uncons
  obtain rfl : vs = [] := List.eq_nil_of_length_eq_zero A.1
  obtain ⟨s, rfl, hs⟩ := Rep.inv_str r0
  obtain rfl := Rep.inv_int r1
  obtain rfl := Rep.inv_ptr r2
  obtain ⟨hb, fv, hc, hr⟩ := rep_own R (hg b _ hH)
  obtain rfl : s = ⟨x.toArray⟩ := by
    cases s with
    | mk a => simp only at hs; rw [← hs]
  have hr1 := hr 1 (by simp)
  have hne : m.next.map natsA ≠ [] := by intro e; have := congrArg List.length e; simp at this; rw [this] at hn1; simp at hn1
  obtain ⟨b1, o1, c1, fv1, e1, hb1, hc1, hr1⟩ := rep_sl (l := m.next.map natsA) hne hr1
  have hfld := hc 1 (by simp)
  rw [e1] at hfld
  refine (w_monoid1_w m hn hm.lt x hx hxl i hi (by omega) w b 0 b1 o1 c1 hb hb1 hfld ?_).mono ?_
  · intro s hs
    have h1 := hc1 s (by simpa using hs)
    have h2 := hr1 s (by simpa using hs)
    have hrl : m.next[s].length = m.k := hm.rl _ (List.getElem_mem hs)
    have h2' : Rep w g (fv1 s) (.sl m.next[s].length (m.next[s].map fun x : Nat => AV.int .i64 (x : Int))) := by simpa [natsA] using h2
    obtain ⟨b2, o2, c2, fv2, e2, hb2, hc2, hr2⟩ := rep_sl (l := m.next[s].map fun x : Nat => AV.int .i64 (x : Int)) (by intro e; have := congrArg List.length e; simp at this; rw [this] at hrl; simp at hrl; omega) h2'
    rw [e2, hrl] at h1
    have h3 := hc2 i (by simp; omega)
    have h4 := hr2 i (by simp; omega)
    simp only [List.getElem_map] at h4
    rw [Rep.inv_int h4] at h3
    refine ⟨b2, o2, c2, hb2, h1, ?_⟩
    have e3 : (m.next.getD s []).getD i 0 = m.next[s][i]'(by omega) := by simp [hs, hrl, hi]
    rw [e3]; exact h3
  · rintro e w' ⟨rfl, hb⟩
    refine ⟨_, rfl, ?_, hb⟩
    have := Rep.str (w := w') (h := g) ⟨(behind m x i).toArray⟩
    simp at this
    exact this
end Go.Proofs
