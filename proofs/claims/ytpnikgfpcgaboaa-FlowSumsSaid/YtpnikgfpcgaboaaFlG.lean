/-
  Flow: the capacity of a set.
-/
import Derived.Test.YtpnikgfpcgaboaaFlG0
set_option linter.unusedSimpArgs false
set_option linter.unusedVariables false
set_option linter.unusedSectionVars false
namespace Go.Proofs
open Go Go.AH
set_option maxRecDepth 10000
set_option maxHeartbeats 4000000

/-- The network's block. -/
def NAt (n : Int) (l : List RArc) (b : Nat) (h : AHeap) : Prop := ∀ off, cellsAt h b off = some (([.int .i64 n, arcsL l] : List AV).drop off)
theorem NAt.upd {n : Int} {l : List RArc} {b : Nat} {h : AHeap} (e : NAt n l b h) {x : Nat} {c : Chunk} (hx : h x = none) : NAt n l b (h.upd x c) := by
  intro off
  have hne : b ≠ x := fun q => by have := e 0; subst q; simp [cellsAt, hx] at this
  have := e off
  unfold cellsAt at this ⊢
  rw [AHeap.upd_ne hne]
  exact this
def arcFn (b : Nat) : AV := .fn (.func 127) [] [.fptr [.ptr b 0]]
theorem w_arcs (b : Nat) (H : AHeap) (hb : H b ≠ none) : ACalls Try.prog 125 [.ptr b 0] H fun r h' => r = arcFn b ∧ h' = H := by
  refine acalls_of Try.func125 rfl Try.call125 (by kernel_rfl) (by show _ ≤ (4 : Nat); simp) ?_
  simp
  intro b1 hb1
  simp
  refine finA_to 2 H (Drop.new (Drop.refl _) hb1) ⟨?_, rfl⟩
  have hf : H b1 = none := hb1
  simp [arcFn, frzF, hf, hb]
def arcE (x : RArc) : List AV := [arcV x, .int .i64 0]
theorem it_arcs (n : Int) (l : List RArc) (hl : l.length ≤ 1000000) (b : Nat) : IterH Try.prog (NAt n l b) (arcFn b) arcE l true := by
  intro γ I step go y g0 h0 hS hgo hI0 _ hy
  unfold arcFn
  rw [ACallV_func]
  refine acalls_of Try.func127 rfl Try.call127 (by kernel_rfl) (by show _ ≤ (19 : Nat); simp) ?_
  have e0 : ∀ off, cellsAt h0 b off = some (([.int .i64 n, arcsL l] : List AV).drop off) := hS _ _ hI0
  simp [e0, -lenA, lenA_arcsL]
  refine awp_loop_g (γ := Nat × γ) (fun q t h => (q.1 ≤ l.length) ∧ (q.2 = (l.take q.1).foldl step g0) ∧ (go q.2 = true) ∧ (I q.2 h) ∧ (runIt step go g0 l = runIt step go q.2 (l.drop q.1)) ∧ t 0 = y ∧ t 8 = arcsL l ∧ t 9 = .int .i64 l.length ∧ t 10 = .int .i64 q.1) (fun q => l.length - q.1) ((0, g0)) (turnA_self ⟨Nat.zero_le _, rfl, hgo, hI0, rfl, by simp⟩) ?_
  rintro q t h ⟨hi, hg, hq, hI, hrun, h0, h8, h9, h10⟩
  obtain ⟨i, g⟩ := q
  simp only at h0 h8 h9 h10 hi hg hq hI hrun
  by_cases hlt : i < l.length
  · have hw : IntKind.i64.wrap ((i : Int) + 1) = (i : Int) + 1 := wrap_i64 (by omega) (by omega)
    have hne : ¬ l = [] := fun e => by rw [e] at hlt; simp at hlt
    have hV : arcsL l = .sl l.length (arcC l) := by unfold arcsL arcsA; rw [if_neg hne]
    have hat := arcC_at hlt
    have hc := hy i g l[i] h (List.getElem?_eq_getElem hlt) hg hq hI
    have hdr : l.drop i = l[i] :: l.drop (i + 1) := List.drop_eq_getElem_cons hlt
    have hts : (l.take (i + 1)).foldl step g0 = step g l[i] := by rw [List.take_succ_eq_append_getElem hlt, List.foldl_append, ← hg]; rfl
    rw [hdr] at hrun
    obtain ⟨x, hx⟩ : ∃ x, x = l[i] := ⟨_, rfl⟩
    rw [← hx] at hat hc hrun hts
    unfold arcE arcV at hc
    have hi3 : 3 ≤ l.length * 3 - i * 3 := by omega
    have hi4 : min 3 (l.length * 3 - i * 3) = 3 := by omega
    simp [h0, h8, h9, h10, hlt, hV, hat, hi3, hi4]
    intro b4 hb4
    simp [h0, h8, h9, h10, splice]
    refine ACallV.mono (ACallV.keep (c := .cells [.int .i64 x.a, .int .i64 x.b, .int .i64 x.c]) hc hb4) ?_
    rintro r h2 ⟨h1, rfl, hn1, rfl, hI1⟩
    cases hgs : go (step g x) with
    | true =>
      simp [h0, h8, h9, h10]
      refine turnA_to h1 (Drop.new (Drop.refl _) hn1) ?_
      exact ⟨i + 1, by omega, by omega, by rw [hts]; exact hgs, by rw [hts]; exact hI1, by rw [hts, hrun]; simp only [runIt, hgs, if_true], by simp [h0, h8, h9, h10, hw, hV]⟩
    | false =>
      simp [h0, h8, h9, h10]
      refine finA_same h1 (Drop.new (Drop.refl _) hn1) ?_
      rw [hrun]
      simp only [runIt, hgs]
      exact hI1
  · obtain rfl : i = l.length := by omega
    rw [List.drop_length] at hrun
    simp [h0, h8, h9, h10]
    refine finA_self ?_
    rw [hrun]
    exact hI
end Go.Proofs
