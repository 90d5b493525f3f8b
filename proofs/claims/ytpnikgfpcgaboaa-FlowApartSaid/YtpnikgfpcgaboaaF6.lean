/-
  Texts: FlW6 FlI1 FlW7.
-/
import Derived.Test.YtpnikgfpcgaboaaF5
set_option linter.unusedSimpArgs false
set_option linter.unusedVariables false
set_option linter.unusedSectionVars false
section
/-
  Flow: Most.
-/
namespace Go.Proofs
open Go Go.AH
set_option maxRecDepth 10000
set_option maxHeartbeats 4000000

theorem w_netSize (n : Int) (l : List RArc) (b : Nat) (H : AHeap) (hb : NAt n l b H) : ACalls Try.prog 126 [.ptr b 0] H fun r h' => r = .int .i64 n ∧ h' = H := by
  refine acalls_of Try.func126 rfl Try.call126 (by kernel_rfl) (by show _ ≤ (7 : Nat); simp) ?_
  have hb0 : ∀ off, cellsAt H b off = some (([.int .i64 n, arcsL l] : List AV).drop off) := hb
  simp [hb0]
  exact finA_self ⟨rfl, rfl⟩
theorem NAt.le {n : Int} {l : List RArc} {b : Nat} {H h : AHeap} (e : NAt n l b H) (x : HLe H h) : NAt n l b h := fun off => x.cells (e off)
theorem NAt.ne {n : Int} {l : List RArc} {b : Nat} {H : AHeap} (e : NAt n l b H) : H b ≠ none := fun q => by have := e 0; simp [cellsAt, q] at this
def netSrc (P : Nat) (l : List RArc) (hl : l.length ≤ 1000000) (b : Nat) (H : AHeap) (hb : NAt P l b H) : Src 107 (.ptr b 0) P l (fun _ => 0) H where
  fs := 126
  ms := by kernel_rfl
  size := fun H' x => w_netSize P l b H' (hb.le x)
  fa := 125
  ma := meth_arcs
  it := 127
  caps := [.fptr [.ptr b 0]]
  arcs := fun H' x => w_arcs b H' (hb.le x).ne
  S := NAt P l b
  hS := fun _ x => hb.le x
  hSu := fun h x c q hx => q.upd hx
  iter := it_arcs P l hl b

structure MaxFl (P : Nat) (l : List RArc) (bk : RArc → Int) (s t : Nat) (v : Int) (left lv : Nat → Int) : Prop where
  v0 : 0 ≤ v
  F : Fl (srOf P l bk) s t left v
  L : Lv (srOf P l bk) s left lv
  c : lv t < 0
  P : ∀ p, 0 ≤ lv p → p < P
def flowL (l : List RArc) (left : Nat → Int) : List Int := (List.range l.length).map fun j => (l.getD j ⟨0, 0, 0⟩).c - left (2 * j)
theorem chk_ok {n : Int} {l : List RArc} (h : chkNet n l = 0) : ∃ P : Nat, n = P ∧ ArcsOk P l fun _ => 0 := by
  unfold chkNet at h
  split at h
  · cases h
  · next hn =>
    simp only [not_or] at hn
    obtain ⟨h1, h2, h3, h4⟩ := hn
    refine ⟨n.toNat, by omega, ⟨by omega, by omega, by omega, fun x hx => ?_, fun x _ => by omega⟩⟩
    have h5 : ¬ (!arcOk n x) = true := fun q => h4 (List.any_eq_true.2 ⟨x, hx, q⟩)
    rw [show ((n.toNat : Nat) : Int) = n from by omega]
    simpa using h5
theorem wok_new {P : Nat} {l : List RArc} {bk : RArc → Int} (O : ArcsOk P l bk) {left : Nat → Int} : WOk (srOf P l bk) (wTo (srOf P l bk) l.length) left fun p => natL (rowOf (srOf P l bk) l.length p) where
  P24 := O.P24
  m200 := O.len
  to := fun k hk => by unfold wTo; rw [if_pos (show k < 2 * l.length from hk)]
  rows := fun p _ => rfl
theorem fl_new {P : Nat} {l : List RArc} {bk : RArc → Int} (O : ArcsOk P l bk) (s t : Nat) : Fl (srOf P l bk) s t (wLeft (srOf P l bk) l.length) 0 := by
  have h := fl0 (s := s) (t := t) (srOf_ok O)
  have e : ∀ k, k < 2 * (srOf P l bk).m → wLeft (srOf P l bk) l.length k = (srOf P l bk).cap0 k := fun k hk => by unfold wLeft; rw [if_pos (show k < 2 * l.length from hk)]
  refine ⟨⟨fun k hk => by rw [e k hk]; exact h.pos k hk, fun j hj => by rw [e _ (by omega), e _ (by omega)]; exact h.sum j hj⟩, fun p => ?_⟩
  rw [← h.ex p]
  unfold exc fl
  refine sm_congr fun j hj => ?_
  rw [e _ (by omega)]
/-- A source's work, and what is pushed through it. -/
theorem w_flow {ty : TypeId} {rv : AV} {P : Nat} {l : List RArc} {bk : RArc → Int} {H : AHeap} (s : Src ty rv P l bk H) (O : ArcsOk P l bk) :
    ACalls Try.prog 54 [.iface ty rv] H fun r h' => ∃ W, H W = none ∧ r = .ptr W 0 ∧ h' = H.upd W (.cells (wC P (wTo (srOf P l bk) l.length) (wLeft (srOf P l bk) l.length) fun p => natL (rowOf (srOf P l bk) l.length p))) := w_newWork s O (.inr trivial)
theorem w_pushed {P : Nat} {l : List RArc} {bk : RArc → Int} (O : ArcsOk P l bk) {W : Nat} {H : AHeap} (hW : H W = none) {s t : Nat} (hs : s < P) (ht : t < P) (hst : s ≠ t) :
    ACalls Try.prog 55 [.ptr W 0, .int .i64 s, .int .i64 t] (H.upd W (.cells (wC P (wTo (srOf P l bk) l.length) (wLeft (srOf P l bk) l.length) fun p => natL (rowOf (srOf P l bk) l.length p))))
      fun r h' => ∃ v left lv, r = .int .i64 v ∧ h' = H.upd W (.cells (wC P (wTo (srOf P l bk) l.length) left fun p => natL (rowOf (srOf P l bk) l.length p))) ∧ 0 ≤ v ∧ Fl (srOf P l bk) s t left v ∧ Lv (srOf P l bk) s left lv ∧ lv t < 0 :=
  w_push (srOf_ok O) (wok_new O) hW s t hs ht hst (fl_new O s t)
def mostQ (n : Int) (l : List RArc) (s t : Int) (r : AV) : Prop :=
  if chkNet n l ≠ 0 then r = .tup [.int .i64 0, .nilsl, .int .i64 (chkNet n l)] else if endsB n s t = false then r = .tup [.int .i64 0, .nilsl, .int .i64 1]
  else ∃ (P s' t' : Nat) (v : Int) (left lv : Nat → Int), n = P ∧ s = s' ∧ t = t' ∧ s' < P ∧ t' < P ∧ s' ≠ t' ∧ ArcsOk P l (fun _ => 0) ∧ 0 ≤ v ∧ Fl (srOf P l fun _ => 0) s' t' left v ∧ Lv (srOf P l fun _ => 0) s' left lv ∧ lv t' < 0 ∧ r = .tup [.int .i64 v, intL (flowL l left), .int .i64 0]
theorem w_Most (n : Int) (l : List RArc) (hl : l.length ≤ 1000000) (s t : Int) : PureE Try.prog 18 [netV n l, .int .i64 s, .int .i64 t] (mostQ n l s t) := by
  obtain ⟨Q, hQ⟩ : ∃ Q, Q = mostQ n l s t := ⟨_, rfl⟩
  rw [← hQ]
  refine pureE_of (acalls_of Try.func18 rfl Try.call18 (by kernel_rfl) (by show _ ≤ (54 : Nat); simp) ?_)
  have ck := w_CheckN n l hl
  have ce := w_areEnds n s t
  obtain ⟨V, hV⟩ : ∃ V, V = arcsL l := ⟨_, rfl⟩
  have hV1 : V.one = true := by rw [hV]; simp
  have hV2 : V.fit = true := by rw [hV]; simp
  have hV3 : V.cells = [V] := by rw [hV]; simp
  have hV4 : ∀ h, lenA Try.prog h 30 V = some (.int .i64 (l.length : Int)) := fun h => by rw [hV, lenA_arcsL]
  unfold netV at ck ⊢
  rw [← hV] at ck ⊢
  simp [hV1, hV2, hV3]
  intro b3 hb3
  simp [hV1, hV2, hV3]
  refine ck.use ?_
  by_cases h0 : chkNet n l = 0
  · rw [h0]
    simp
    refine ce.use ?_
    cases he : endsB n s t with
    | false =>
      simp
      refine finA_drop ?_
      rw [hQ]; unfold mostQ
      rw [if_neg (by simp [h0]), if_pos he]
    | true =>
      simp
      obtain ⟨P, rfl, O⟩ := chk_ok h0
      have he' := he
      simp only [endsB, Bool.and_eq_true, decide_eq_true_eq] at he'
      obtain ⟨⟨⟨⟨e1, e2⟩, e3⟩, e4⟩, e5⟩ := he'
      obtain ⟨s', hs'⟩ : ∃ s' : Nat, s = s' := ⟨s.toNat, by omega⟩
      obtain ⟨t', ht'⟩ : ∃ t' : Nat, t = t' := ⟨t.toNat, by omega⟩
      subst hs' ht'
      have hs2 : s' < P := by omega
      have ht2 : t' < P := by omega
      have hst : s' ≠ t' := fun e => e5 (by rw [e])
      have hN : NAt P l b3 (AHeap.empty.upd b3 (.cells [.int .i64 P, V])) := fun off => by rw [hV]; simp
      refine ACalls.mono (w_flow (netSrc P l hl b3 _ hN) O) ?_
      rintro _ _ ⟨W, hW, rfl, rfl⟩
      have hWb : ¬ W = b3 := fun e => by rw [e] at hW; simp [AHeap.upd] at hW
      have hbW : ¬ b3 = W := fun e => hWb e.symm
      simp
      refine ACalls.mono (w_pushed O hW hs2 ht2 hst) ?_
      rintro _ _ ⟨v, left, lv, rfl, rfl, v0, F, L, hc⟩
      obtain ⟨S, hS⟩ : ∃ S, S = srOf P l fun _ => 0 := ⟨_, rfl⟩
      have hfin : Q (.tup [.int .i64 v, intL (flowL l left), .int .i64 0]) := by
        rw [hQ]; unfold mostQ
        rw [if_neg (by simp [h0]), if_neg (by simp [he])]
        exact ⟨P, s', t', v, left, lv, rfl, rfl, rfl, hs2, ht2, hst, O, v0, F, L, hc, rfl⟩
      have hl200 := O.len
      have hleft : ∀ k, k < 2 * l.length → 0 ≤ left k ∧ left k ≤ 2000000000 := fun k hk => left_le (srOf_ok O) F.toLeft hk
      obtain ⟨To, hTo⟩ : ∃ To, To = wTo (srOf P l fun _ => 0) l.length := ⟨_, rfl⟩
      obtain ⟨Ro, hRo⟩ : ∃ Ro : Nat → AV, Ro = fun p => natL (rowOf (srOf P l fun _ => 0) l.length p) := ⟨_, rfl⟩
      obtain ⟨FL, hFL⟩ : ∃ FL, FL = flowL l left := ⟨_, rfl⟩
      have hFLl : FL.length = l.length := by rw [hFL]; simp [flowL]
      rw [← hTo, ← hRo]
      rw [← hFL] at hfin
      clear hN hW
      simp [hbW, hWb, hV4, -lenA]
      refine awp_loop_g (γ := At) (fun q t h => (q.i ≤ l.length) ∧ ((q.o = none ↔ q.i = 0) ∧ ¬ q.o = some b3 ∧ ¬ q.o = some W) ∧ t 6 = .int .i64 v ∧ t 7 = ownV q.o q.i 1 ∧ t 10 = .ptr W 0 ∧ t 31 = V ∧ t 32 = .int .i64 l.length ∧ t 33 = .int .i64 q.i ∧ h = ((AHeap.empty.upd b3 (.cells [.int .i64 P, V])).upd W (.cells (wC P To left Ro))).updO q.o (intC (FL.take q.i))) (fun q => l.length - q.i) (⟨0, none⟩) (turnA_self (by simp)) ?_
      rintro q t hx ⟨hi, ho, h6, h7, h10, h31, h32, h33, ex⟩
      rw [ex]
      clear ex
      obtain ⟨i, o⟩ := q
      simp only at h6 h7 h10 h31 h32 h33 hi ho
      obtain ⟨ho1, ho2, ho3⟩ := ho
      by_cases hlt : i < l.length
      · have hltI : (i : Int) < (l.length : Int) := by omega
        have hwi : IntKind.i64.wrap ((i : Int) + 1) = (i : Int) + 1 := wrap_i64 (by omega) (by omega)
        have hw2 : IntKind.i64.wrap (2 * (i : Int)) = ((2 * i : Nat) : Int) := by rw [wrap_i64 (by omega) (by omega)]; omega
        obtain ⟨k2, hk2⟩ : ∃ k2, k2 = 2 * i := ⟨_, rfl⟩
        rw [← hk2] at hw2
        have k400 : k2 < 400 := by omega
        have k400I : (k2 : Int) < 400 := by omega
        have hne : ¬ l = [] := fun e => by rw [e] at hlt; simp at hlt
        have hVs : V = .sl l.length (arcC l) := by rw [hV]; unfold arcsL arcsA; rw [if_neg hne]
        have hat := arcC_at hlt
        obtain ⟨x, hx⟩ : ∃ x, x = l[i] := ⟨_, rfl⟩
        rw [← hx] at hat
        have hxo := arcOk_iff.1 (O.ok x (hx ▸ List.getElem_mem hlt))
        have hlf := hleft k2 (by omega)
        have hws : IntKind.i64.wrap (x.c - left k2) = x.c - left k2 := wrap_i64 (by omega) (by omega)
        have hi3 : 3 ≤ l.length * 3 - i * 3 := by omega
        have hi4 : min 3 (l.length * 3 - i * 3) = 3 := by omega
        have hiF : i < FL.length := by omega
        have hts : intC (FL.take (i + 1)) = intC (FL.take i) ++ [.int .i64 (x.c - left k2)] := by
          rw [List.take_succ_eq_append_getElem hiF]
          have : FL[i] = x.c - left k2 := by
            simp only [hFL, flowL, List.getElem_map, List.getElem_range]
            rw [List.getD_eq_getElem?_getD, List.getElem?_eq_getElem hlt, hk2, hx]; rfl
          simp [intC, this]
        simp [h6, h7, h10, h31, h32, h33, hlt, hltI, hVs, hat, hi3, hi4]
        intro b12 hb12
        simp [ho2, ho3] at hb12
        simp [h6, h7, h10, h31, h32, h33, hb12, splice]
        refine awp_draw_text (by kernel_rfl) [] [] (by kernel_rfl) (by kernel_rfl) (by simp) ?_
        simp [h6, h7, h10, h31, h32, h33, hb12, hbW, hWb, ho2, ho3, hw2, k400, k400I, gt_left, dr_left, hws]
        intro b13 hb13
        simp [ho2, ho3, hb12] at hb13
        simp [h6, h7, h10, h31, h32, h33, hb13, hb12, hbW, hWb, ho2, ho3]
        refine appendA_updO (by omega) (by omega) (fun e => by rw [ho1.1 e]; rfl) (by simp [intC]; omega) (by simp) (by cases o with | none => simp | some b => simp at hb13 hb12 ho2 ho3 ⊢; grind) fun b' hb' => ?_
        simp [hb13, hb12, hbW, hWb, ho2, ho3] at hb'
        simp [h6, h7, h10, h31, h32, h33, hb', hb13, hb12, hbW, hWb, ho2, ho3]
        rw [← hts, ← hVs]
        refine turnA_to (((AHeap.empty.upd b3 (.cells [.int .i64 P, V])).upd W (.cells (wC P To left Ro))).updO (some b') (intC (FL.take (i + 1)))) ?_ ⟨⟨i + 1, some b'⟩, by simp only; omega, by simp only; omega, by simp [hb'], by simp [h6, h7, h10, h31, h32, h33, hwi, hVs]⟩
        simp
        refine Drop.both (Drop.new (Drop.new (Drop.refl _) ?_) ?_)
        all_goals simp [hb12, hb13]
      · obtain rfl : i = l.length := by omega
        simp [h6, h7, h10, h31, h32, h33]
        have hFt : FL.take l.length = FL := List.take_of_length_le (by omega)
        rw [hFt]
        cases o with
        | none =>
          have hl0 := ho1.1 rfl
          have hFe : FL = [] := List.eq_nil_of_length_eq_zero (by omega)
          rw [hFe] at hfin
          exact finA_drop hfin
        | some b =>
          have hFne : ¬ FL = [] := fun e => by
            rw [e] at hFLl
            simp at hFLl
            have := ho1.2 (by omega)
            cases this
          refine finA_all 3 ?_
          simp only [frz_agg, frz_tup, List.map_cons, List.map_nil, ownV_some, updO_some]
          rw [frz_osl (by simp)]
          simp [hFLl]
          rw [map_frozen intC_frozen, List.take_of_length_le (by simp [intC, hFLl])]
          rw [intL, if_neg hFne, hFLl] at hfin
          exact hfin
  · simp [h0]
    refine finA_drop ?_
    rw [hQ]; unfold mostQ
    rw [if_pos h0]
end Go.Proofs

end

section
/-
  Flow: whether numbers are a flow.
-/
namespace Go.Proofs
open Go Go.AH
set_option maxRecDepth 10000
set_option maxHeartbeats 4000000

def arcAt (l : List RArc) (j : Nat) : RArc := l.getD j ⟨0, 0, 0⟩
/-- What goes out at a place less what comes in, over the first arcs. -/
def vl (l : List RArc) (f : Nat → Int) (n : Nat) (p : Int) : Int := sm (fun j => (if (arcAt l j).a = p then f j else 0) - (if (arcAt l j).b = p then f j else 0)) n
theorem vl_succ {l : List RArc} {f : Nat → Int} {n : Nat} {p : Int} : vl l f (n + 1) p = vl l f n p + ((if (arcAt l n).a = p then f n else 0) - (if (arcAt l n).b = p then f n else 0)) := rfl
theorem vl_bound {l : List RArc} {f : Nat → Int} {p : Int} : ∀ {n : Nat}, (∀ j, j < n → 0 ≤ f j ∧ f j ≤ 1000000000) → -(n * 1000000000 : Int) ≤ vl l f n p ∧ vl l f n p ≤ n * 1000000000
  | 0, _ => by simp [vl, sm]
  | n + 1, h => by
    have h1 := vl_bound (l := l) (f := f) (p := p) (n := n) fun j hj => h j (by omega)
    have h2 := h n (by omega)
    rw [vl_succ]
    split <;> split <;> omega
theorem vl_out {l : List RArc} {f : Nat → Int} {P p : Nat} (hp : P ≤ p) : ∀ {n : Nat}, n ≤ l.length → (∀ x ∈ l, arcOk P x = true) → vl l f n p = 0
  | 0, _, _ => rfl
  | n + 1, hn, h => by
    have hx : arcOk P (arcAt l n) = true := h _ (by unfold arcAt; rw [List.getD_eq_getElem?_getD, List.getElem?_eq_getElem (by omega)]; simp)
    have := arcOk_iff.1 hx
    rw [vl_succ, vl_out hp (by omega) h, if_neg (by omega), if_neg (by omega)]; rfl
def capsOk (l : List RArc) (fs : List Int) (n : Nat) : Prop := ∀ j, j < n → 0 ≤ fs.getD j 0 ∧ fs.getD j 0 ≤ (arcAt l j).c
def balOk (l : List RArc) (fs : List Int) (s t : Int) (n : Nat) : Prop := ∀ p : Nat, p < n → (p : Int) ≠ s → (p : Int) ≠ t → vl l (fun j => fs.getD j 0) l.length p = 0
open Classical in
noncomputable def isFlowA (n : Int) (l : List RArc) (s t : Int) (fs : List Int) : AV :=
  if chkNet n l = 0 ∧ endsB n s t = true ∧ fs.length = l.length ∧ capsOk l fs l.length ∧ balOk l fs s t n.toNat then .tup [.int .i64 (vl l (fun j => fs.getD j 0) l.length s), .bool true] else .tup [.int .i64 0, .bool false]
theorem zero123 : zeroT Try.prog 123 = some (iarr 24 fun _ => 0) := by kernel_rfl
theorem intC_at {l : List Int} {i : Nat} {x : Int} (e : l[i]? = some x) : (intC l).drop i = .int .i64 x :: (intC l).drop (i + 1) := drop_of_get (by simp [intC, e])
theorem lenA41 {h : AHeap} (l : List Int) : lenA Try.prog h 41 (intL l) = some (.int .i64 (l.length : Int)) := by
  unfold intL
  split
  · next e => subst e; simp
  · simp
theorem w_IsFlow (n : Int) (l : List RArc) (hl : l.length ≤ 1000000) (s t : Int) (fs : List Int) (hfs : fs.length ≤ 1000000) : Pure Try.prog 23 [netV n l, .int .i64 s, .int .i64 t, intL fs] (isFlowA n l s t fs) := by
  obtain ⟨r, hr⟩ : ∃ r, r = isFlowA n l s t fs := ⟨_, rfl⟩
  rw [← hr]
  refine pure_of (acalls_of Try.func23 rfl Try.call23 (by kernel_rfl) (by show _ ≤ (98 : Nat); simp) ?_)
  have ck := w_CheckN n l hl
  have ce := w_areEnds n s t
  obtain ⟨V, hV⟩ : ∃ V, V = arcsL l := ⟨_, rfl⟩
  have hV1 : V.one = true := by rw [hV]; simp
  have hV2 : V.fit = true := by rw [hV]; simp
  have hV3 : V.cells = [V] := by rw [hV]; simp
  have hV4 : ∀ h, lenA Try.prog h 30 V = some (.int .i64 (l.length : Int)) := fun h => by rw [hV, lenA_arcsL]
  unfold netV at ck ⊢
  rw [← hV] at ck ⊢
  have bad : ¬ (chkNet n l = 0 ∧ endsB n s t = true ∧ fs.length = l.length ∧ capsOk l fs l.length ∧ balOk l fs s t n.toNat) → r = .tup [.int .i64 0, .bool false] := fun h => by rw [hr, isFlowA, if_neg h]
  simp [hV1, hV2, hV3]
  intro b4 hb4
  simp [hV1, hV2, hV3]
  refine ck.use ?_
  by_cases h0 : chkNet n l = 0
  · rw [h0]
    simp [hV1, hV2, hV3]
    refine ce.use ?_
    cases he : endsB n s t with
    | false =>
      simp
      refine finA_drop ?_
      exact (bad fun q => by rw [he] at q; cases q.2.1).symm
    | true =>
      simp [-lenA, lenA41, hV4]
      by_cases hll : fs.length = l.length
      · have hllI : (fs.length : Int) = (l.length : Int) := by omega
        simp [hllI, hll, -lenA, lenA41, hV4, -Try.zeroT123, zero123]
        obtain ⟨P, rfl, O⟩ := chk_ok h0
        have he' := he
        simp only [endsB, Bool.and_eq_true, decide_eq_true_eq] at he'
        obtain ⟨⟨⟨⟨e1, e2⟩, e3⟩, e4⟩, e5⟩ := he'
        obtain ⟨s', hs'⟩ : ∃ s' : Nat, s = s' := ⟨s.toNat, by omega⟩
        obtain ⟨t', ht'⟩ : ∃ t' : Nat, t = t' := ⟨t.toNat, by omega⟩
        subst hs' ht'
        have P24 := O.P24
        have l200 := O.len
        have hs2 : s' < 24 := by omega
        have hs2I : (s' : Int) < 24 := by omega
        intro b10 hb10
        simp at hb10
        simp [hb10, -lenA, hV4]
        obtain ⟨f, hf⟩ : ∃ f : Nat → Int, f = fun j => fs.getD j 0 := ⟨_, rfl⟩
        refine awp_loop_g (γ := Nat) (fun i t h => (i ≤ l.length) ∧ (capsOk l fs i) ∧ t 1 = .int .i64 s' ∧ t 2 = .int .i64 t' ∧ t 3 = intL fs ∧ t 4 = .ptr b4 0 ∧ t 10 = .ptr b10 0 ∧ t 35 = V ∧ t 36 = .int .i64 l.length ∧ t 37 = .int .i64 i ∧ h = (AHeap.empty.upd b4 (.cells [.int .i64 P, V])).upd b10 (.cells (iarr 24 fun p => vl l f i p))) (fun i => l.length - i) (0) (turnA_self (by simp [hb10, vl, sm, capsOk])) ?_
        rintro i t h ⟨hi, hc, h1, h2, h3, h4, h10, h35, h36, h37, rfl⟩
        have hbd := fun (n : Nat) (p : Int) (hn : n ≤ l.length) (h : capsOk l fs n) => vl_bound (l := l) (f := f) (p := p) (n := n) fun j hj => by
          have h1 := h j hj
          have h2 : arcOk P (arcAt l j) = true := O.ok _ (by unfold arcAt; rw [List.getD_eq_getElem?_getD, List.getElem?_eq_getElem (by omega)]; simp)
          have := arcOk_iff.1 h2
          rw [hf]; simp only; omega
        by_cases hlt : i < l.length
        · have hltI : (i : Int) < (l.length : Int) := by omega
          have hwi : IntKind.i64.wrap ((i : Int) + 1) = (i : Int) + 1 := wrap_i64 (by omega) (by omega)
          have hne : ¬ l = [] := fun e => by rw [e] at hlt; simp at hlt
          have hfne : ¬ fs = [] := fun e => by rw [e] at hll; simp at hll; omega
          have hVs : V = .sl l.length (arcC l) := by rw [hV]; unfold arcsL arcsA; rw [if_neg hne]
          have hFs : intL fs = .sl fs.length (intC fs) := by unfold intL; rw [if_neg hfne]
          have hat := arcC_at hlt
          obtain ⟨x, hx⟩ : ∃ x, x = l[i] := ⟨_, rfl⟩
          rw [← hx] at hat
          have hxa : arcAt l i = x := by unfold arcAt; rw [List.getD_eq_getElem?_getD, List.getElem?_eq_getElem hlt, hx]; rfl
          have hxo := arcOk_iff.1 (O.ok x (hx ▸ List.getElem_mem hlt))
          obtain ⟨y, hy⟩ : ∃ y, y = fs[i]'(by omega) := ⟨_, rfl⟩
          have hy' : fs[i]? = some y := by rw [hy]; exact List.getElem?_eq_getElem (by omega)
          have hyf : f i = y := by rw [hf]; simp only; rw [List.getD_eq_getElem?_getD, hy']; rfl
          have hyd : fs.getD i 0 = y := by rw [List.getD_eq_getElem?_getD, hy']; rfl
          have hi3 : 3 ≤ l.length * 3 - i * 3 := by omega
          have hi4 : min 3 (l.length * 3 - i * 3) = 3 := by omega
          have hifs : i < fs.length := by omega
          have hifsI : (i : Int) < (fs.length : Int) := by omega
          simp [h1, h2, h3, h4, h10, h35, h36, h37, hlt, hltI, hVs, hat, hi3, hi4]
          intro b12 hb12
          simp at hb12
          simp [h1, h2, h3, h4, h10, h35, h36, h37, hb12, splice]
          refine awp_draw_text (by kernel_rfl) [] [] (by kernel_rfl) (by kernel_rfl) (by simp) ?_
          by_cases hy0 : y < 0
          · simp [h1, h2, h3, h4, h10, h35, h36, h37, hb12, hFs, intC_at hy', hifs, hifsI, hy0, hll, hlt, hltI]
            refine finA_drop ?_
            exact (bad fun q => by have := q.2.2.2.1 i hlt; omega).symm
          · by_cases hyc : x.c < y
            · simp [h1, h2, h3, h4, h10, h35, h36, h37, hb12, hFs, intC_at hy', hifs, hifsI, hy0, hyc, hll, hlt, hltI]
              refine finA_drop ?_
              exact (bad fun q => by have := q.2.2.2.1 i hlt; rw [hxa] at this; omega).symm
            · have hc' : capsOk l fs (i + 1) := fun j hj => by
                by_cases e : j = i
                · rw [e, hyd, hxa]; omega
                · exact hc j (by omega)
              obtain ⟨A, hA⟩ : ∃ A : Nat, x.a = A := ⟨x.a.toNat, by omega⟩
              obtain ⟨B, hB⟩ : ∃ B : Nat, x.b = B := ⟨x.b.toNat, by omega⟩
              have hAB : A ≠ B := by omega
              have A24 : A < 24 := by omega
              have A24I : (A : Int) < 24 := by omega
              have B24 : B < 24 := by omega
              have B24I : (B : Int) < 24 := by omega
              have A23 : A ≤ 23 := by omega
              have B23 : B ≤ 23 := by omega
              have bA := hbd i A hi hc
              have bB := hbd i B hi hc
              have wA : IntKind.i64.wrap (vl l f i A + y) = vl l f i A + y := wrap_i64 (by omega) (by omega)
              have wB : IntKind.i64.wrap (vl l f i B - y) = vl l f i B - y := wrap_i64 (by omega) (by omega)
              obtain ⟨g, hg⟩ : ∃ g : Nat → Int, g = fun p : Nat => vl l f i (p : Int) := ⟨_, rfl⟩
              have hgA : vl l f i A = g A := by rw [hg]
              have hgB : vl l f i B = g B := by rw [hg]
              rw [hgA] at wA
              rw [hgB] at wB
              rw [← hg]
              have eB : upf g A (g A + y) B = g B := by unfold upf; rw [if_neg (fun e => hAB e.symm)]
              have eU : upf (upf g A (g A + y)) B (g B - y) = fun p : Nat => vl l f (i + 1) p := by
                funext p
                rw [vl_succ, hxa, hA, hB, hyf]
                unfold upf
                by_cases h1 : p = B
                · rw [if_pos h1, if_neg (by omega), if_pos (by omega), ← hgB, h1]; omega
                · rw [if_neg h1]
                  by_cases h2 : p = A
                  · rw [if_pos h2, if_pos (by omega), if_neg (by omega), ← hgA, h2]; omega
                  · rw [if_neg h2, if_neg (by omega), if_neg (by omega), hg]; simp
              simp [h1, h2, h3, h4, h10, h35, h36, h37, hb12, hb10, hFs, intC_at hy', hifs, hifsI, hy0, hyc, hll, hlt, hltI]
              refine awp_draw_text (by kernel_rfl) [] [] (by kernel_rfl) (by kernel_rfl) (by simp) ?_
              simp [h1, h2, h3, h4, h10, h35, h36, h37, hb12, hb10, hFs, intC_at hy', hifs, hifsI, hA, A24, A24I, iarr_get, iarr_dr, wA, iarr_set, A23, hll, hltI, hlt]
              refine awp_draw_text (by kernel_rfl) [] [] (by kernel_rfl) (by kernel_rfl) (by simp) ?_
              simp [h1, h2, h3, h4, h10, h35, h36, h37, hb12, hb10, hFs, intC_at hy', hifs, hifsI, hB, B24, B24I, iarr_get, iarr_dr, eB, wB, iarr_set, B23, eU, hll, hltI, hlt]
              refine turnA_to ((AHeap.empty.upd b4 (.cells [.int .i64 P, .sl l.length (arcC l)])).upd b10 (.cells (iarr 24 fun p => vl l f (i + 1) p))) ?_ ⟨i + 1, by omega, by omega, hc', by simp [h1, h2, h3, h4, h10, h35, h36, h37, hwi, hVs, hFs, hll]⟩
              exact Drop.new (Drop.refl _) (by simp [hb12])
        · obtain rfl : i = l.length := by omega
          have bad2 : ¬ balOk l fs s' t' P → r = .tup [.int .i64 0, .bool false] := fun h => bad fun q => h (by simpa using q.2.2.2.2)
          obtain ⟨g, hg⟩ : ∃ g : Nat → Int, g = fun p : Nat => vl l f l.length (p : Int) := ⟨_, rfl⟩
          have hgs : vl l f l.length s' = g s' := by rw [hg]
          rw [← hg]
          have t24 : (iarr 24 g).take 24 = iarr 24 g := List.take_of_length_le (by simp)
          simp [h1, h2, h3, h4, h10, h35, h36, h37, hb10, t24]
          refine awp_loop_g (γ := Nat) (fun i t h => (i ≤ 24) ∧ (balOk l fs s' t' i) ∧ t 1 = .int .i64 s' ∧ t 2 = .int .i64 t' ∧ t 10 = .ptr b10 0 ∧ t 77 = .agg (iarr 24 g) ∧ t 78 = .int .i64 i ∧ h = (AHeap.empty.upd b4 (.cells [.int .i64 P, V])).upd b10 (.cells (iarr 24 g))) (fun i => 24 - i) (0) (turnA_self (by simp [h1, h2, h3, h4, h10, h35, h36, h37, balOk])) ?_
          rintro i t h ⟨hi, hb, h1, h2, h10, h77, h78, rfl⟩
          by_cases h24 : i < 24
          · have h24I : (i : Int) < 24 := by omega
            have hwi : IntKind.i64.wrap ((i : Int) + 1) = (i : Int) + 1 := wrap_i64 (by omega) (by omega)
            have hgi : g i = vl l f l.length i := by rw [hg]
            have nxt : ((i : Int) = s' ∨ (i : Int) = t' ∨ g i = 0) → balOk l fs s' t' (i + 1) := fun q p hp h1 h2 => by
              by_cases e : p = i
              · rcases q with q | q | q
                · rw [e] at h1; exact absurd q h1
                · rw [e] at h2; exact absurd q h2
                · rw [e, ← hf, ← hgi]; exact q
              · exact hb p (by omega) h1 h2
            simp [h1, h2, h10, h77, h78, h24, h24I, iarr_get, iarr_dr]
            by_cases q1 : (i : Int) = s'
            · have hn := nxt (.inl q1)
              obtain rfl : s' = i := by omega
              simp [h1, h2, h10, h77, h78]
              exact turnA_self ⟨s' + 1, by omega, by omega, hn, by simp [h1, h2, h10, h77, h78, hwi]⟩
            · by_cases q2 : (i : Int) = t'
              · have hn := nxt (.inr (.inl q2))
                obtain rfl : t' = i := by omega
                simp [h1, h2, h10, h77, h78, q1]
                exact turnA_self ⟨t' + 1, by omega, by omega, hn, by simp [h1, h2, h10, h77, h78, hwi]⟩
              · by_cases q3 : g i = 0
                · simp [h1, h2, h10, h77, h78, q1, q2, q3]
                  exact turnA_self ⟨i + 1, by omega, by omega, nxt (.inr (.inr q3)), by simp [h1, h2, h10, h77, h78, hwi]⟩
                · simp [h1, h2, h10, h77, h78, q1, q2, q3]
                  refine finA_drop (bad2 fun q => ?_).symm
                  by_cases hip : i < P
                  · exact q3 (by rw [hgi, hf]; exact q i hip q1 q2)
                  · exact q3 (by rw [hgi, vl_out (P := P) (by omega) (Nat.le_refl _) O.ok])
          · obtain rfl : i = 24 := by omega
            simp [h1, h2, h10, h77, h78, hb10, hs2, hs2I, iarr_get, iarr_dr]
            refine finA_drop ?_
            rw [hr, isFlowA, if_pos ⟨h0, he, hll, hc, fun p hp => hb p (by simp at hp; omega)⟩, ← hgs, hf]
      · have hllI : ¬ (fs.length : Int) = (l.length : Int) := by omega
        simp [hllI, hll, -lenA, lenA41, hV4]
        refine finA_drop ?_
        exact (bad fun q => hll q.2.2.1).symm
  · simp [h0]
    refine finA_drop ?_
    exact (bad fun q => h0 q.1).symm
end Go.Proofs

end

section
/-
  Flow: Cut.
-/
namespace Go.Proofs
open Go Go.AH
set_option maxRecDepth 10000
set_option maxHeartbeats 4000000

def cutQ (n : Int) (l : List RArc) (s t : Int) (r : AV) : Prop :=
  if chkNet n l ≠ 0 then r = .tup [.nilsl, .int .i64 0, .int .i64 (chkNet n l)] else if endsB n s t = false then r = .tup [.nilsl, .int .i64 0, .int .i64 1]
  else ∃ (P s' t' : Nat) (v : Int) (left lv : Nat → Int), n = P ∧ s = s' ∧ t = t' ∧ s' < P ∧ t' < P ∧ s' ≠ t' ∧ ArcsOk P l (fun _ => 0) ∧ 0 ≤ v ∧ Fl (srOf P l fun _ => 0) s' t' left v ∧ Lv (srOf P l fun _ => 0) s' left lv ∧ lv t' < 0 ∧ r = .tup [natL (reachL P lv), .int .i64 v, .int .i64 0]
theorem Lv.out {S : Sr} {s t : Nat} {left lv lv' : Nat → Int} (ok : S.Ok) (L : Lv S s left lv) (L' : Lv S s left lv') (ht : t < S.P) (h : lv t < 0) : lv' t < 0 := by
  rcases Int.lt_or_le (lv' t) 0 with q | q
  · exact q
  · have := L'.min ok (In := fun p => decide (0 ≤ lv p)) (by simp [L.s0]) L.closed ht q
    simp at this
    omega
theorem w_Cut (n : Int) (l : List RArc) (hl : l.length ≤ 1000000) (s t : Int) : PureE Try.prog 19 [netV n l, .int .i64 s, .int .i64 t] (cutQ n l s t) := by
  obtain ⟨Q, hQ⟩ : ∃ Q, Q = cutQ n l s t := ⟨_, rfl⟩
  rw [← hQ]
  refine pureE_of (acalls_of Try.func19 rfl Try.call19 (by kernel_rfl) (by show _ ≤ (32 : Nat); simp) ?_)
  have ck := w_CheckN n l hl
  have ce := w_areEnds n s t
  obtain ⟨V, hV⟩ : ∃ V, V = arcsL l := ⟨_, rfl⟩
  have hV1 : V.one = true := by rw [hV]; simp
  have hV2 : V.fit = true := by rw [hV]; simp
  have hV3 : V.cells = [V] := by rw [hV]; simp
  unfold netV at ck ⊢
  rw [← hV] at ck ⊢
  simp [hV1, hV2, hV3]
  intro b3 hb3
  simp [hV1, hV2, hV3]
  refine ck.use ?_
  by_cases h0 : chkNet n l = 0
  · rw [h0]
    simp
    refine ce.use ?_
    cases he : endsB n s t with
    | false =>
      simp
      refine finA_drop ?_
      rw [hQ]; unfold cutQ
      rw [if_neg (by simp [h0]), if_pos he]
    | true =>
      simp
      obtain ⟨P, rfl, O⟩ := chk_ok h0
      have he' := he
      simp only [endsB, Bool.and_eq_true, decide_eq_true_eq] at he'
      obtain ⟨⟨⟨⟨e1, e2⟩, e3⟩, e4⟩, e5⟩ := he'
      obtain ⟨s', hs'⟩ : ∃ s' : Nat, s = s' := ⟨s.toNat, by omega⟩
      obtain ⟨t', ht'⟩ : ∃ t' : Nat, t = t' := ⟨t.toNat, by omega⟩
      subst hs' ht'
      have hs2 : s' < P := by omega
      have ht2 : t' < P := by omega
      have hst : s' ≠ t' := fun e => e5 (by rw [e])
      have hN : NAt P l b3 (AHeap.empty.upd b3 (.cells [.int .i64 P, V])) := fun off => by rw [hV]; simp
      refine ACalls.mono (w_flow (netSrc P l hl b3 _ hN) O) ?_
      rintro _ _ ⟨W, hW, rfl, rfl⟩
      simp
      refine ACalls.mono (w_pushed O hW hs2 ht2 hst) ?_
      rintro _ _ ⟨v, left, lv0, rfl, rfl, v0, F, L0, hc0⟩
      simp
      refine ACalls.mono (w_reached (srOf_ok O) (wok_new O) (by simp [AHeap.upd]; rfl) s' hs2) ?_
      rintro _ _ ⟨rfl, lv, rfl, L, _⟩
      have hc := Lv.out (srOf_ok O) L0 L ht2 hc0
      simp
      refine finA_drop ?_
      rw [hQ]; unfold cutQ
      rw [if_neg (by simp [h0]), if_neg (by simp [he])]
      exact ⟨P, s', t', v, left, lv, rfl, rfl, rfl, hs2, ht2, hst, O, v0, F, L, hc, rfl⟩
  · simp [h0]
    refine finA_drop ?_
    rw [hQ]; unfold cutQ
    rw [if_pos h0]
end Go.Proofs

end
