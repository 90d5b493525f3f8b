/-
  Plain law: the greatest flow and the least cut.
-/
import Derived.Test.YtpnikgfpcgaboaaF7
import Derived.Test.YtpnikgfpcgaboaaF6
import Derived.Test.YtpnikgfpcgaboaaFlX1
set_option linter.unusedSimpArgs false
set_option linter.unusedVariables false
set_option linter.unusedSectionVars false
namespace Go.Proofs
open Go Go.AH
set_option maxRecDepth 10000
set_option maxHeartbeats 4000000

section
variable {P : Nat} {l : List RArc} {s t : Nat} {v v' : Int} {left left' lv lv' : Nat → Int}
theorem cap_capB (P : Nat) (l : List RArc) (In : Nat → Bool) : cap (srOf P l fun _ => 0) In = capB l In l.length := by
  unfold cap capB
  refine sm_congr fun j hj => ?_
  show (if (In (arcAt l j).a.toNat && !In (arcAt l j).b.toNat) = true then (arcAt l j).c else 0) + (if _ then (0 : Int) else 0) = _
  have : ∀ (c : Prop) [Decidable c], (if c then (0 : Int) else 0) = 0 := fun c _ => by split <;> rfl
  rw [this]; omega
theorem capB_congr {f g : Nat → Bool} (O : ArcsOk P l fun _ => 0) (h : ∀ p, p < P → f p = g p) : capB l f l.length = capB l g l.length := by
  unfold capB
  refine sm_congr fun j hj => ?_
  have := arcOk_iff.1 (O.ok (arcAt l j) (by unfold arcAt; rw [List.getD_eq_getElem?_getD, List.getElem?_eq_getElem hj]; simp))
  rw [h _ (by omega), h _ (by omega)]
theorem least_of (O : ArcsOk P l fun _ => 0) (hs : s < P) (ht : t < P) (v0 : 0 ≤ v) (F : Fl (srOf P l fun _ => 0) s t left v) (L : Lv (srOf P l fun _ => 0) s left lv) (hc : lv t < 0) :
    LeastIs P s t (fun k => capB l (fun p => k.testBit p) l.length) v (bitsOf (fun p => decide (0 ≤ lv p)) P) := by
  obtain ⟨c1, c2⟩ := most_cut (srOf_ok O) F hs L hc
  refine ⟨v0, bitsOf_lt _ _, ?_, ?_, ?_, fun k hk ks kt => ?_⟩
  · rw [testBit_bitsOf]; simp [hs, L.s0]
  · rw [testBit_bitsOf]; simp; intro _; omega
  · rw [← c1, cap_capB]
    refine capB_congr O fun p hp => ?_
    rw [testBit_bitsOf]; simp [hp]
  · obtain ⟨d1, d2⟩ := c2 (fun p => k.testBit p) ks kt
    rw [cap_capB] at d1 d2
    refine ⟨d1, fun e => and_of_sub fun p hp => ?_⟩
    rw [testBit_bitsOf] at hp
    simp at hp
    exact d2 e p hp.1 hp.2
theorem LeastIs.unique {cp : Nat → Int} {m m' : Nat} (L : LeastIs P s t cp v m) (L' : LeastIs P s t cp v' m') : v = v' ∧ m = m' := by
  obtain ⟨a1, a2⟩ := L.all m' L'.lt L'.ms L'.mt
  obtain ⟨b1, b2⟩ := L'.all m L.lt L.ms L.mt
  have c1 := L.mc
  have c2 := L'.mc
  have e : v = v' := by omega
  refine ⟨e, ?_⟩
  have h1 := a2 (by omega)
  have h2 := b2 (by omega)
  rw [← h1, Nat.and_comm, h2]
theorem mem_reach : memL P (bitsOf (fun p => decide (0 ≤ lv p)) P) = reachL P lv := by
  unfold memL reachL
  refine List.filter_congr fun p hp => ?_
  rw [testBit_bitsOf]
  simp at hp
  simp [hp]
theorem flowL_get {j : Nat} (hj : j < l.length) : (flowL l left).getD j 0 = (arcAt l j).c - left (2 * j) := by
  unfold flowL
  rw [List.getD_eq_getElem?_getD, List.getElem?_map, List.getElem?_range hj]; rfl
theorem vl_exc (O : ArcsOk P l fun _ => 0) (p : Nat) : vl l (fun j => (flowL l left).getD j 0) l.length p = exc (srOf P l fun _ => 0) left p := by
  unfold vl exc
  refine sm_congr fun j hj => ?_
  have := arcOk_iff.1 (O.ok (arcAt l j) (by unfold arcAt; rw [List.getD_eq_getElem?_getD, List.getElem?_eq_getElem hj]; simp))
  simp only
  rw [flowL_get hj]
  show _ = (if (arcAt l j).a.toNat = p then (arcAt l j).c - left (2 * j) else 0) - (if (arcAt l j).b.toNat = p then (arcAt l j).c - left (2 * j) else 0)
  have e1 : ((arcAt l j).a = (p : Int)) ↔ (arcAt l j).a.toNat = p := by omega
  have e2 : ((arcAt l j).b = (p : Int)) ↔ (arcAt l j).b.toNat = p := by omega
  simp only [e1, e2]
theorem flow_caps (F : Fl (srOf P l fun _ => 0) s t left v) : capsOk l (flowL l left) l.length := fun j hj => by
  rw [flowL_get hj]
  have h1 := F.pos (2 * j) (show 2 * j < 2 * l.length by omega)
  have h2 := F.pos (2 * j + 1) (show 2 * j + 1 < 2 * l.length by omega)
  have h3 : left (2 * j) + left (2 * j + 1) = (arcAt l j).c + 0 := F.sum j hj
  omega
theorem chk_of_ok (O : ArcsOk P l fun _ => 0) : chkNet P l = 0 := by
  unfold chkNet
  rw [if_neg]
  have := O.P2
  have := O.P24
  have := O.len
  simp only [not_or]
  refine ⟨by omega, by omega, by omega, fun h => ?_⟩
  obtain ⟨x, hx, h⟩ := List.any_eq_true.1 h
  rw [O.ok x hx] at h; cases h
theorem ends_ok (hs : s < P) (ht : t < P) (hst : s ≠ t) : endsB P s t = true := by
  simp [endsB]; omega
theorem isFlow_most (O : ArcsOk P l fun _ => 0) (hs : s < P) (ht : t < P) (hst : s ≠ t) (F : Fl (srOf P l fun _ => 0) s t left v) : isFlowA P l s t (flowL l left) = .tup [.int .i64 v, .bool true] := by
  unfold isFlowA
  rw [if_pos]
  · rw [vl_exc O, F.ex s, if_pos rfl, if_neg (fun e => hst e.symm)]; simp
  · refine ⟨chk_of_ok O, ends_ok hs ht hst, by simp [flowL], flow_caps F, fun p hp h1 h2 => ?_⟩
    rw [vl_exc O, F.ex p, if_neg (fun e => h1 (by rw [e])), if_neg (fun e => h2 (by rw [e]))]; rfl
end
theorem tame_ok {P : Nat} (hP : 2 ≤ P ∧ P ≤ 24) (l : List RArc) (most : Nat) (hm : most ≤ 200) : ArcsOk P (tameArcs P l most) fun _ => 0 := by
  obtain ⟨Q, hQ, O⟩ := chk_ok (tame_chk hP l most hm)
  have : P = Q := by omega
  subst this
  exact O
theorem tameP_le (n : Int) (places : Nat) (h : 3 ≤ places ∧ places ≤ 24) : 2 ≤ tameP n places ∧ tameP n places ≤ places := by
  unfold tameP
  have := Int.emod_nonneg (uM (IntKind.i64.wrap (n - 2))) (show ((places - 1 : Nat) : Int) ≠ 0 by omega)
  have := Int.emod_lt_of_pos (uM (IntKind.i64.wrap (n - 2))) (show (0 : Int) < ((places - 1 : Nat) : Int) by omega)
  omega
end Go.Proofs
