/-
  Flow: Apart.
-/
import Derived.Test.YtpnikgfpcgaboaaF11
import Derived.Test.YtpnikgfpcgaboaaFlL2
set_option linter.unusedSimpArgs false
set_option linter.unusedVariables false
set_option linter.unusedSectionVars false
namespace Go.Proofs
open Go Go.AH
set_option maxRecDepth 10000
set_option maxHeartbeats 4000000

theorem l_Contains (l : List Nat) (hl : l.length ≤ 1000000) (x : Nat) : Pure Try.prog 60 [.sl l.length (natC l), .int .i64 x] (.bool (decide (x ∈ l))) := by
  refine pure_of (acalls_of Try.func60 rfl Try.call60 (by kernel_rfl) (by show _ ≤ (9 : Nat); simp) ?_)
  have h := l_Index l hl x
  simp
  refine h.use ?_
  by_cases c : x ∈ l
  · simp [c]
    exact finA_drop rfl
  · simp [c]
    exact finA_drop rfl
theorem turnA_in {K : AF → AHeap → Prop} {t : AF} {h h' : AHeap} {a b n : Nat} {p : Int} {cs : List AV} (ha : h a = some (.cells [.int .i64 p, .osl b 0 n 3])) (hb : h b = some (.cells cs)) (hc : ∀ x ∈ cs, x.frozen = true) (hn : cs.length = n * 3)
    (h1 : h' a = some (.cells [.int .i64 p, .sl n cs])) (h2 : Fresh h' b) (h3 : ∀ y, y ≠ a → h' y = none ∨ h' y = h y) (q : K t h') : turnA K t h := by
  refine ⟨2, h', t, fun y => ?_, fun _ => .inl rfl, q⟩
  by_cases e : y = a
  · subst e
    refine .inr (.inr ⟨_, ha, ?_⟩)
    rw [h1]
    simp only [List.map_cons, List.map_nil]
    rw [frz_osl h2, cellsAt_eq hb]
    have ht : List.take (n * 3) cs = cs := List.take_of_length_le (by omega)
    simp [hn]
    rw [map_frozen hc]
    exact ht.symm
  · rcases h3 y e with q | q
    · exact .inl q
    · exact .inr (.inl q)
theorem frz_ownV {o : Option Nat} {n es : Nat} {h h' : AHeap} (hh : ∀ b, o = some b → h' b ≠ none) : ∀ k, frzF k h h' (ownV o n es) = ownV o n es
  | 0 => rfl
  | k + 1 => by
    cases o with
    | none => simp [frzF]
    | some b =>
      have := hh b rfl
      simp only [ownV_some, frzF]
      cases e : h' b with
      | none => exact absurd e this
      | some c => cases h b with
        | none => rfl
        | some d => cases d <;> rfl
structure WZ where
  n : Nat
  U : Nat → Bool
  o : Option Nat
  ws : List (List Nat)
def waysC (ws : List (List Nat)) : List AV := ws.map fun w => .sl w.length (natC w)
structure ApartIs (P : Nat) (l : List RArc) (s T : Nat) (ws : List (List Nat)) (out : List Nat) : Prop where
  ap : apartR l s T (ws.map fun w => w.map fun x : Nat => (x : Int)) = true
  len : out.length = ws.length
  least : ∃ m, LeastIs P s T (fun k => capB (onesL l) (fun p => k.testBit p) (onesL l).length) ws.length m
  cut : ∃ In : Nat → Bool, In s = true ∧ In T = false ∧ out = outA l In l.length
  rows : ∀ w ∈ ws, w ≠ [] ∧ w.length ≤ 200
theorem w_Apart (P : Nat) (l : List RArc) (O : ArcsOk P l fun _ => 0) (s T : Nat) (hs2 : s < P) (ht2 : T < P) (hst : s ≠ T) : ACalls Try.prog 27 [netV P l, .int .i64 s, .int .i64 T] AHeap.empty fun r h' =>
    ∃ (o : Option Nat) (ws : List (List Nat)) (out : List Nat), r = .tup [ownV o ws.length 1, natL out, .int .i64 0] ∧ h' = AHeap.empty.updO o (waysC ws) ∧ (o = none ↔ ws = []) ∧ ApartIs P l s T ws out := by
  obtain ⟨Q, hQ⟩ : ∃ Q : AV → AHeap → Prop, Q = fun r h' => ∃ (o : Option Nat) (ws : List (List Nat)) (out : List Nat), r = .tup [ownV o ws.length 1, natL out, .int .i64 0] ∧ h' = AHeap.empty.updO o (waysC ws) ∧ (o = none ↔ ws = []) ∧ ApartIs P l s T ws out := ⟨_, rfl⟩
  rw [← hQ]
  refine acalls_of Try.func27 rfl Try.call27 (by kernel_rfl) (by show _ ≤ (120 : Nat); simp) ?_
  have l200 := O.len
  have P24 := O.P24
  have ck := w_CheckN P l (by omega)
  have ce := w_areEnds P s T
  rw [chk_of_ok O] at ck
  rw [ends_ok hs2 ht2 hst] at ce
  have O1 := ones_ok O
  obtain ⟨L1, hL1⟩ : ∃ L1, L1 = onesL l := ⟨_, rfl⟩
  have hL1l : L1.length = l.length := by rw [hL1]; simp
  obtain ⟨V, hV⟩ : ∃ V, V = arcsL l := ⟨_, rfl⟩
  have hV1 : V.one = true := by rw [hV]; simp
  have hV2 : V.fit = true := by rw [hV]; simp
  have hV3 : V.cells = [V] := by rw [hV]; simp
  have hV4 : ∀ h, lenA Try.prog h 30 V = some (.int .i64 (l.length : Int)) := fun h => by rw [hV, lenA_arcsL]
  unfold netV at ck ⊢
  rw [← hV] at ck ⊢
  simp [hV1, hV2, hV3]
  intro b3 hb3
  simp [hV1, hV2, hV3]
  refine ck.use ?_
  simp
  refine ce.use ?_
  simp
  intro b10 hb10
  simp at hb10
  simp [hb10, splice, hV1, hV2, hV3, hV4, -lenA]
  obtain ⟨W1, hW1⟩ : ∃ W1, W1 = arcsL L1 := ⟨_, rfl⟩
  have hz0 : (if 0 = l.length then (AHeap.empty.upd b3 (.cells [.int .i64 P, V])).upd b10 (.cells [.int .i64 P, W1]) else (AHeap.empty.upd b3 (.cells [.int .i64 P, V])).upd b10 (.cells [.int .i64 P, .nilsl])) = (AHeap.empty.upd b3 (.cells [.int .i64 P, V])).upd b10 (.cells [.int .i64 P, .nilsl]) := by
    split
    · next e =>
      have : L1 = [] := List.eq_nil_of_length_eq_zero (by omega)
      rw [hW1, this]; rfl
    · rfl
  refine awp_loop_g (γ := At) (fun q t h => (q.i ≤ l.length) ∧ ((q.o = none ↔ q.i = 0) ∧ ¬ q.o = some b3 ∧ ¬ q.o = some b10) ∧ t 1 = .int .i64 s ∧ t 2 = .int .i64 T ∧ t 3 = .ptr b3 0 ∧ t 6 = .nilsl ∧ t 7 = .nilsl ∧ t 10 = .ptr b10 0 ∧ t 35 = V ∧ t 36 = .int .i64 l.length ∧ t 37 = .int .i64 q.i ∧ h = if q.i = l.length then (AHeap.empty.upd b3 (.cells [.int .i64 P, V])).upd b10 (.cells [.int .i64 P, W1]) else ((AHeap.empty.upd b3 (.cells [.int .i64 P, V])).upd b10 (.cells [.int .i64 P, ownV q.o q.i 3])).updO q.o (arcC (L1.take q.i))) (fun q => l.length - q.i) (⟨0, none⟩) (turnA_self (by simp [hb10, hz0])) ?_
  rintro q t hx ⟨hi, ho, h1, h2, h3, h6, h7, h10, h35, h36, h37, ex⟩
  rw [ex]
  clear ex
  obtain ⟨i, o⟩ := q
  simp only at h1 h2 h3 h6 h7 h10 h35 h36 h37 hi ho
  obtain ⟨ho1, ho2, ho3⟩ := ho
  by_cases hlt : i < l.length
  · rw [if_neg (show ¬ i = l.length from by omega)]
    have hltI : (i : Int) < (l.length : Int) := by omega
    have hwi : IntKind.i64.wrap ((i : Int) + 1) = (i : Int) + 1 := wrap_i64 (by omega) (by omega)
    have hne : ¬ l = [] := fun e => by rw [e] at hlt; simp at hlt
    have hVs : V = .sl l.length (arcC l) := by rw [hV]; unfold arcsL arcsA; rw [if_neg hne]
    have hat := arcC_at hlt
    have hts : arcC (L1.take (i + 1)) = arcC (L1.take i) ++ [.int .i64 l[i].a, .int .i64 l[i].b, .int .i64 1] := by
      have hin1 : i < L1.length := by omega
      rw [List.take_succ_eq_append_getElem hin1, arcC_append]
      simp [hL1, onesL, arcC]
      rfl
    obtain ⟨x, hx⟩ : ∃ x, x = l[i] := ⟨_, rfl⟩
    rw [← hx] at hat hts
    have hz : zcells [.int .i64 0, .int .i64 0, .int .i64 0] 1 = [.int .i64 0, .int .i64 0, .int .i64 0] := rfl
    have hi3 : 3 ≤ l.length * 3 - i * 3 := by omega
    have hi4 : min 3 (l.length * 3 - i * 3) = 3 := by omega
    simp [h1, h2, h3, h6, h7, h10, h35, h36, h37, hlt, hltI, hVs, hat, hi3, hi4]
    intro b12 hb12
    simp [ho2, ho3] at hb12
    simp [h1, h2, h3, h6, h7, h10, h35, h36, h37, hb12, hb10, ho2, ho3, splice, hz]
    intro b13 hb13
    simp [ho2, ho3, hb12] at hb13
    simp [h1, h2, h3, h6, h7, h10, h35, h36, h37, hb13, hb12, hb10, ho2, ho3]
    refine appendA_updO (by omega) (by omega) (fun e => by rw [ho1.1 e]; rfl) (by simp; omega) (by simp) (by cases o with | none => simp | some b => simp at hb13 hb12 ho2 ho3 ⊢; grind) fun b' hb' => ?_
    simp [hb13, hb12, hb10, ho2, ho3] at hb'
    simp [h1, h2, h3, h6, h7, h10, h35, h36, h37, hb', hb13, hb12, hb10, ho2, ho3]
    rw [← hts, ← hVs]
    by_cases hl : i + 1 = l.length
    · have hlI : (i : Int) + 1 = (l.length : Int) := by omega
      have hwN : IntKind.i64.wrap (l.length : Int) = (l.length : Int) := wrap_i64 (by omega) (by omega)
      have hW1s : W1 = .sl (i + 1) (arcC L1) := by
        have hne1 : ¬ L1 = [] := fun e => by rw [e] at hL1l; simp at hL1l; omega
        rw [hW1]; unfold arcsL arcsA; rw [if_neg hne1, hL1l, hl]
      have htk : L1.take (i + 1) = L1 := List.take_of_length_le (by omega)
      rw [htk]
      refine turnA_in (a := b10) (b := b') (n := i + 1) (p := P) (cs := arcC L1) (h' := (AHeap.empty.upd b3 (.cells [.int .i64 P, V])).upd b10 (.cells [.int .i64 P, W1])) ?_ ?_ arcC_frozen (by simp; omega) ?_ ?_ ?_ ⟨⟨i + 1, some b'⟩, by simp only; omega, by simp only; omega, by simp [hb'], by simp [h1, h2, h3, h6, h7, h10, h35, h36, h37, hwi, hl, hlI, hwN]⟩
      · simp [AHeap.upd, hb', hb13, hb12, hb10]
      · simp [AHeap.upd]
      · rw [hW1s]; simp [AHeap.upd]
      · simp [hb']
      · intro y hy
        simp only [AHeap.upd, AHeap.empty]
        grind
    · refine turnA_to (((AHeap.empty.upd b3 (.cells [.int .i64 P, V])).upd b10 (.cells [.int .i64 P, .osl b' 0 (i + 1) 3])).updO (some b') (arcC (L1.take (i + 1)))) ?_ ⟨⟨i + 1, some b'⟩, by simp only; omega, by simp only; omega, by simp [hb'], by simp [h1, h2, h3, h6, h7, h10, h35, h36, h37, hwi, hl]⟩
      simp
      refine Drop.both (Drop.new (Drop.new (Drop.refl _) ?_) ?_)
      all_goals simp [hb12, hb13]
  · obtain rfl : i = l.length := by omega
    rw [if_pos rfl]
    simp [h1, h2, h3, h6, h7, h10, h35, h36, h37]
    have hN : NAt P L1 b10 ((AHeap.empty.upd b3 (.cells [.int .i64 P, V])).upd b10 (.cells [.int .i64 P, W1])) := fun off => by rw [hW1]; simp
    rw [← hL1] at O1
    refine ACalls.mono (w_flow (netSrc P L1 (by omega) b10 _ hN) O1) ?_
    rintro _ _ ⟨W, hW, rfl, rfl⟩
    have hWb : ¬ W = b10 ∧ ¬ W = b3 := ⟨fun e => by rw [e] at hW; simp [AHeap.upd] at hW, fun e => by rw [e] at hW; simp [AHeap.upd, hb10] at hW⟩
    have hbW : ¬ b10 = W ∧ ¬ b3 = W := ⟨fun e => hWb.1 e.symm, fun e => hWb.2 e.symm⟩
    simp [h1, h2, h3, h6, h7, h10, h35, h36, h37]
    refine ACalls.mono (w_pushed O1 hW hs2 ht2 hst) ?_
    rintro _ _ ⟨v, left, lv0, rfl, rfl, v0, F, L0, hc0⟩
    simp [h1, h2, h3, h6, h7, h10, h35, h36, h37, hb10, hWb, hbW, hV4, -lenA]
    have hrep : List.replicate l.length (AV.bool false) = barr l.length fun _ => false := by
      refine List.ext_getElem (by simp) fun i h1 h2 => by simp [barr]
    rw [hrep]
    refine ⟨by omega, ?_⟩
    intro bu hbu
    simp at hbu
    simp [hbu]
    have hleft : ∀ k, k < 2 * L1.length → 0 ≤ left k ∧ left k ≤ 2000000000 := fun k hk => left_le (srOf_ok O1) F.toLeft hk
    obtain ⟨To, hTo⟩ : ∃ To, To = wTo (srOf P L1 fun _ => 0) L1.length := ⟨_, rfl⟩
    obtain ⟨Ro, hRo⟩ : ∃ Ro : Nat → AV, Ro = fun p => natL (rowOf (srOf P L1 fun _ => 0) L1.length p) := ⟨_, rfl⟩
    have hWO := wok_new O1 (left := left)
    rw [← hTo, ← hRo]
    rw [← hTo, ← hRo] at hWO
    obtain ⟨Uf, hUf⟩ : ∃ Uf : Nat → Nat → Bool, Uf = fun i k => decide (k < i) && decide (left (2 * k) = 0) := ⟨_, rfl⟩
    have hUf0 : Uf 0 = fun _ => false := by rw [hUf]; funext k; simp
    refine awp_loop_g (γ := Nat) (fun i t h => (i ≤ l.length) ∧ t 1 = .int .i64 s ∧ t 2 = .int .i64 T ∧ t 3 = .ptr b3 0 ∧ t 6 = .nilsl ∧ t 7 = .nilsl ∧ t 13 = .ptr W 0 ∧ t 14 = .int .i64 v ∧ t 15 = .osl bu 0 l.length 1 ∧ t 63 = .int .i64 l.length ∧ t 64 = .int .i64 i ∧ h = (((AHeap.empty.upd b3 (.cells [.int .i64 P, V])).upd b10 (.cells [.int .i64 P, W1])).upd W (.cells (wC P To left Ro))).upd bu (.cells (barr l.length (Uf i)))) (fun i => l.length - i) (0) (turnA_self (by simp [h1, h2, h3, h6, h7, h10, h35, h36, h37, hUf0])) ?_
    rintro i t hy ⟨hi, h1, h2, h3, h6, h7, h13, h14, h15, h63, h64, ey⟩
    rw [ey]
    clear ey
    by_cases hlt : i < l.length
    · have hltI : (i : Int) < (l.length : Int) := by omega
      have hwi : IntKind.i64.wrap ((i : Int) + 1) = (i : Int) + 1 := wrap_i64 (by omega) (by omega)
      have hw2 : IntKind.i64.wrap (2 * (i : Int)) = ((2 * i : Nat) : Int) := by rw [wrap_i64 (by omega) (by omega)]; omega
      obtain ⟨k2, hk2⟩ : ∃ k2, k2 = 2 * i := ⟨_, rfl⟩
      rw [← hk2] at hw2
      have k400 : k2 < 400 := by omega
      have k400I : (k2 : Int) < 400 := by omega
      have hup : upf (Uf i) i (decide (left k2 = 0)) = Uf (i + 1) := by
        rw [hUf]; funext k
        simp only [upf]
        split
        · next e => subst e; simp [hk2]
        · next e => simp [show k < i + 1 ↔ k < i from by omega]
      simp [h1, h2, h3, h6, h7, h13, h14, h15, h63, h64, hlt, hltI, hw2, k400, k400I, hbu, dr_left, gt_left, barr_dr hlt, splice_one, barr_set, hup]
      refine ⟨by omega, turnA_self ⟨i + 1, by omega, by omega, by simp [h1, h2, h3, h6, h7, h13, h14, h15, h63, h64, hwi]⟩⟩
    · obtain rfl : i = l.length := by omega
      simp [h1, h2, h3, h6, h7, h13, h14, h15, h63, h64]
      have hbal0 : ∀ p, bal l (Uf l.length) p = (v - (0 : Nat)) * ((if s = p then 1 else 0) - (if T = p then 1 else 0)) := fun p => by
        rw [show v - ((0 : Nat) : Int) = v from by omega, ← ones_bal (hL1 ▸ F) p]
        unfold bal
        refine sm_congr fun j hj => ?_
        rw [hUf]; simp [hj]
      obtain ⟨c1, _⟩ := most_cut (srOf_ok O1) F hs2 L0 hc0
      have hv200 : v ≤ 200 := by
        have h1 := outA_cap (l := l) (P := P) (In := fun p => decide (0 ≤ lv0 p)) (n := l.length) (Nat.le_refl _)
        have h2 : ((outA l (fun p => decide (0 ≤ lv0 p)) l.length).length : Int) = v := by
          rw [h1, ← c1, hL1]
          unfold cap
          rw [show (srOf P (onesL l) fun _ => 0).m = l.length from by simp [srOf]]
        have h3 : (outA l (fun p => decide (0 ≤ lv0 p)) l.length).length ≤ l.length := by
          have := List.length_filter_le (fun k => (fun p => decide (0 ≤ lv0 p)) (fromN l k) && !(fun p => decide (0 ≤ lv0 p)) (toN l k)) (List.range l.length)
          simpa [outA] using this
        omega
      obtain ⟨U0, hU0⟩ : ∃ U0, U0 = Uf l.length := ⟨_, rfl⟩
      rw [← hU0] at hbal0 ⊢
      refine awp_loop_g (γ := WZ) (fun z t h => ((z.n : Int) ≤ v) ∧ (z.ws.length = z.n) ∧ (Taken l s T z.U (z.ws.map fun w => w.map fun x : Nat => (x : Int))) ∧ (∀ p, bal l z.U p = (v - (z.n : Nat)) * ((if s = p then 1 else 0) - (if T = p then 1 else 0))) ∧ (∀ w ∈ z.ws, w ≠ [] ∧ w.length ≤ 200) ∧ ((z.o = none ↔ z.n = 0) ∧ ¬ z.o = some b3 ∧ ¬ z.o = some b10 ∧ ¬ z.o = some W ∧ ¬ z.o = some bu) ∧ t 1 = .int .i64 s ∧ t 2 = .int .i64 T ∧ t 3 = .ptr b3 0 ∧ t 6 = ownV z.o z.n 1 ∧ t 7 = .nilsl ∧ t 13 = .ptr W 0 ∧ t 15 = .osl bu 0 l.length 1 ∧ t 79 = .int .i64 v ∧ t 80 = .int .i64 z.n ∧ h = ((((AHeap.empty.upd b3 (.cells [.int .i64 P, V])).upd b10 (.cells [.int .i64 P, W1])).upd W (.cells (wC P To left Ro))).upd bu (.cells (barr l.length z.U))).updO z.o (waysC z.ws)) (fun z => (v - z.n).toNat) (⟨0, U0, none, []⟩) (turnA_self ⟨v0, rfl, Taken.nil, hbal0, (fun w hw => nomatch hw), ⟨by simp, by simp, by simp, by simp, by simp⟩, by simp [h1, h2, h3, h6, h7, h13, h14, h15, h63, h64]⟩) ?_
      rintro z t hz ⟨hn, hzl, hT, hbl, hrw, ho, h1, h2, h3, h6, h7, h13, h15, h79, h80, ez⟩
      rw [ez]
      clear ez
      obtain ⟨n, U, o1, ws⟩ := z
      simp only at h1 h2 h3 h6 h7 h13 h15 h79 h80 hn hzl hT hbl hrw ho
      obtain ⟨u1, u2, u3, u4, u5⟩ := ho
      by_cases hnv : (n : Int) < v
      · have hwn : IntKind.i64.wrap ((n : Int) + 1) = (n : Int) + 1 := wrap_i64 (by omega) (by omega)
        have cw := w_way P l O s T hs2 ht2 hst (v - n) (by omega) U hbl bu ((((AHeap.empty.upd b3 (.cells [.int .i64 P, V])).upd b10 (.cells [.int .i64 P, W1])).upd W (.cells (wC P To left Ro))).updO o1 (waysC ws)) (by
          have : Fresh ((((AHeap.empty.upd b3 (.cells [.int .i64 P, V])).upd b10 (.cells [.int .i64 P, W1])).upd W (.cells (wC P To left Ro))).updO o1 (waysC ws)) bu := by simp [hbu, u5]
          simpa [Fresh] using this)
        simp only [updO_upd u5, keep_eq] at cw
        unfold netV at cw
        rw [← hV] at cw
        try simp only [keep_eq] at cw
        simp [h1, h2, h3, h6, h7, h13, h15, h79, h80, hnv, u2, u3, u4, u5, hb10, hWb, hbW, hbu, hV1, hV2, hV3]
        refine ACalls.mono cw ?_
        rintro _ _ ⟨U2, out, rfl, rfl, Wk⟩
        have hon : out ≠ [] := fun q => by have := Wk.ch; rw [q] at this; exact hst this
        have hol : out.length ≤ l.length := nodup_lt' l.length out Wk.nd (chain_lt Wk.ch)
        simp [h1, h2, h3, h6, h7, h13, h15, h79, h80]
        intro b88 hb88
        simp [u2, u3, u4, u5, hb10, hWb, hbW, hbu] at hb88
        simp [h1, h2, h3, h6, h7, h13, h15, h79, h80, hb88, u2, u3, u4, u5, hb10, hWb, hbW, hbu]
        refine appendA_updO (es := 1) (n := n) (k := 1) Nat.zero_lt_one (by omega) (fun e => by have := u1.1 e; rw [List.eq_nil_of_length_eq_zero (hzl.trans this)]; rfl) (by simp [waysC, hzl]) Nat.zero_lt_one (by cases o1 with | none => simp | some b => simp at hb88 u2 u3 u4 u5 ⊢; grind) fun b' hb' => ?_
        simp [hb88, hb10, hWb, hbW, hbu] at hb'
        have hws : waysC ws ++ [.sl out.length (natC out)] = waysC (ws ++ [out]) := by simp [waysC]
        simp [h1, h2, h3, h6, h7, h13, h15, h79, h80, hws]
        refine turnA_to (((((AHeap.empty.upd b3 (.cells [.int .i64 P, V])).upd b10 (.cells [.int .i64 P, W1])).upd W (.cells (wC P To left Ro))).upd bu (.cells (barr l.length U2))).updO (some b') (waysC (ws ++ [out]))) ?_ ⟨⟨n + 1, U2, some b', ws ++ [out]⟩, by simp only; omega, by simp only; omega, by simp [hzl], ?_, fun p => ?_, ?_, by simp [hb'], by simp [h1, h2, h3, h6, h7, h13, h15, h79, h80, hwn]⟩
        · simp
          exact Drop.both (Drop.new (Drop.refl _) (by simp [hb88]))
        · simp only [List.map_append, List.map_cons, List.map_nil]
          exact hT.snoc Wk
        · simp only
          rw [show v - ((n + 1 : Nat) : Int) = v - n - 1 from by omega]
          exact Wk.done p
        · intro w hw
          rcases List.mem_append.1 hw with q | q
          · exact hrw w q
          · simp only [List.mem_singleton] at q
            subst q
            exact ⟨hon, by omega⟩
      · obtain rfl : v = n := by omega
        simp [h1, h2, h3, h6, h7, h13, h15, h79, h80]
        refine ACalls.mono (w_reached (srOf_ok O1) hWO (by
          have : ((((AHeap.empty.upd b3 (.cells [.int .i64 P, V])).upd b10 (.cells [.int .i64 P, W1])).upd W (.cells (wC P To left Ro))).upd bu (.cells (barr l.length U))) W = some (.cells (wC P To left Ro)) := by simp [AHeap.upd, hbu]
          cases o1 with
          | none => exact this
          | some b =>
            simp at u4
            rw [updO_some, AHeap.upd_ne (fun q => u4 q.symm)]
            exact this) s hs2) ?_
        rintro _ _ ⟨rfl, lv, rfl, L, _⟩
        have hc := Lv.out (srOf_ok O1) L0 L ht2 hc0
        obtain ⟨In, hIn⟩ : ∃ In : Nat → Bool, In = fun p => decide (0 ≤ lv p) := ⟨_, rfl⟩
        obtain ⟨st, hst'⟩ : ∃ st, st = reachL P lv := ⟨_, rfl⟩
        have hmem : ∀ p, p < P → decide (p ∈ st) = In p := fun p hp => by
          rw [hst', hIn]; unfold reachL; simp [hp]
        have hsm : s ∈ st := by
          have := hmem s hs2
          rw [hIn] at this
          simpa [L.s0] using this
        have hstn : ¬ st = [] := fun q => by rw [q] at hsm; cases hsm
        have hstl : st.length ≤ P := by
          rw [hst']
          have := List.length_filter_le (fun p => decide (0 ≤ lv p)) (List.range P)
          simpa [reachL] using this
        have hct := fun x => l_Contains st (by omega) x
        have hsn : natL (reachL (srOf P L1 fun _ => 0).P lv) = .sl st.length (natC st) := by
          rw [show (srOf P L1 fun _ => 0).P = P from rfl, ← hst']
          unfold natL; rw [if_neg hstn]
        rw [hsn]
        simp [h1, h2, h3, h6, h7, h13, h15, h79, h80, u2, u3, u4, u5, hb10, hWb, hbW, hbu, hV1, hV2, hV3, hV4, -lenA]
        obtain ⟨Hw, hHw⟩ : ∃ Hw, Hw = AHeap.empty.updO o1 (waysC ws) := ⟨_, rfl⟩
        have hdr : ∀ X : AHeap, Drop (X.updO o1 (waysC ws)) Hw := fun X => by
          rw [hHw]
          cases o1 with
          | none => exact Drop.empty _
          | some b => exact Drop.both (Drop.empty _)
        have hlenA : ∀ k, (outA l In k).length ≤ k := fun k => by
          have := List.length_filter_le (fun k => In (fromN l k) && !In (toN l k)) (List.range k)
          simpa [outA] using this
        refine awp_loop_g (γ := At) (fun q t h => (q.i ≤ l.length) ∧ ((q.o = none ↔ outA l In q.i = []) ∧ FreshO Hw q.o) ∧ t 6 = ownV o1 n 1 ∧ t 7 = ownV q.o (outA l In q.i).length 1 ∧ t 17 = .sl st.length (natC st) ∧ t 95 = V ∧ t 96 = .int .i64 l.length ∧ t 97 = .int .i64 q.i ∧ h = Hw.updO q.o (natC (outA l In q.i))) (fun q => l.length - q.i) (⟨0, none⟩) (turnA_to Hw (hdr _) ⟨Nat.zero_le _, ⟨by simp [outA], trivial⟩, by simp [h1, h2, h3, h6, h7, h13, h15, h79, h80, outA]⟩) ?_
        rintro q t hy ⟨hi, ho, h6, h7, h17, h95, h96, h97, ey⟩
        rw [ey]
        clear ey
        obtain ⟨i, oa⟩ := q
        simp only at h6 h7 h17 h95 h96 h97 hi ho
        obtain ⟨ho1, ho2⟩ := ho
        by_cases hlt : i < l.length
        · have hltI : (i : Int) < (l.length : Int) := by omega
          have hwi : IntKind.i64.wrap ((i : Int) + 1) = (i : Int) + 1 := wrap_i64 (by omega) (by omega)
          have hne : ¬ l = [] := fun e => by rw [e] at hlt; simp at hlt
          have hVs : V = .sl l.length (arcC l) := by rw [hV]; unfold arcsL arcsA; rw [if_neg hne]
          have hat := arcC_at hlt
          obtain ⟨x, hx⟩ : ∃ x, x = l[i] := ⟨_, rfl⟩
          rw [← hx] at hat
          have hxo := arcOk_iff.1 (O.ok x (hx ▸ List.getElem_mem hlt))
          have hi3 : 3 ≤ l.length * 3 - i * 3 := by omega
          have hi4 : min 3 (l.length * 3 - i * 3) = 3 := by omega
          have hxa : arcAt l i = x := by rw [hx]; simp [arcAt, List.getD_eq_getElem?_getD, hlt]
          obtain ⟨xa, hxa1⟩ : ∃ xa : Nat, x.a = xa := ⟨x.a.toNat, by omega⟩
          obtain ⟨xb, hxb1⟩ : ∃ xb : Nat, x.b = xb := ⟨x.b.toNat, by omega⟩
          have hfr : fromN l i = xa := by unfold fromN; rw [hxa, hxa1]; rfl
          have hto : toN l i = xb := by unfold toN; rw [hxa, hxb1]; rfl
          have hca := hct xa
          have hcb := hct xb
          rw [hmem xa (by omega)] at hca
          rw [hmem xb (by omega)] at hcb
          have hsc := outA_succ (l := l) (In := In) (n := i)
          rw [hfr, hto] at hsc
          have hll := hlenA i
          have hdr2 : ∀ {b : Nat} (c : Chunk), ¬ oa = some b → Fresh Hw b → Drop ((Hw.upd b c).updO oa (natC (outA l In i))) (Hw.updO oa (natC (outA l In i))) := fun {b} c n1 n2 => by
            cases oa with
            | none => exact Drop.new (Drop.refl _) n2
            | some d => exact Drop.both (Drop.new (Drop.refl _) n2)
          simp [h6, h7, h17, h95, h96, h97, hlt, hltI, hVs, hat, hi3, hi4, hxa1, hxb1]
          intro b19 hb19
          simp at hb19
          simp [h6, h7, h17, h95, h96, h97, hb19]
          refine hca.use ?_
          cases ea : In xa with
          | false =>
            rw [ea] at hsc
            simp at hsc
            simp [h6, h7, h17, h95, h96, h97, hb19]
            exact turnA_to _ (hdr2 _ hb19.1 hb19.2) ⟨⟨i + 1, oa⟩, by simp only; omega, by simp only; omega, ⟨by simp only; rw [hsc]; exact ho1, ho2⟩, by simp [h6, h7, h17, h95, h96, h97, hwi, hsc, hVs]⟩
          | true =>
            rw [ea] at hsc
            simp at hsc
            simp [h6, h7, h17, h95, h96, h97, hb19]
            refine hcb.use ?_
            cases eb : In xb with
            | true =>
              rw [eb] at hsc
              simp at hsc
              simp [h6, h7, h17, h95, h96, h97, hb19]
              exact turnA_to _ (hdr2 _ hb19.1 hb19.2) ⟨⟨i + 1, oa⟩, by simp only; omega, by simp only; omega, ⟨by simp only; rw [hsc]; exact ho1, ho2⟩, by simp [h6, h7, h17, h95, h96, h97, hwi, hsc, hVs]⟩
            | false =>
              rw [eb] at hsc
              simp at hsc
              simp [h6, h7, h17, h95, h96, h97, hb19]
              intro b20 hb20
              simp [hb19] at hb20
              simp [h6, h7, h17, h95, h96, h97, hb20, hb19]
              refine appendA_updO (es := 1) (n := (outA l In i).length) (k := 1) Nat.zero_lt_one (by omega) (fun e => by rw [ho1.1 e]; rfl) (by simp) Nat.zero_lt_one (by cases oa with | none => simp | some b => simp at hb20 hb19 ho2 ⊢; simp [ho2]; grind) fun b' hb' => ?_
              simp [hb19, hb20] at hb'
              have hns : natC (outA l In i) ++ [.int .i64 (i : Int)] = natC (outA l In (i + 1)) := by rw [hsc]; simp [natC]
              have hnl : (outA l In (i + 1)).length = (outA l In i).length + 1 := by rw [hsc]; simp
              simp [h6, h7, h17, h95, h96, h97, hns]
              refine turnA_to (Hw.upd b' (.cells (natC (outA l In (i + 1))))) ?_ ⟨⟨i + 1, some b'⟩, by simp only; omega, by simp only; omega, ⟨by simp [hsc], by simp [hb']⟩, by simp [h6, h7, h17, h95, h96, h97, hwi, hnl, hVs]⟩
              exact Drop.both (Drop.new (Drop.new (Drop.refl _) hb19.2) (by simp [hb20, hb19]))
        · obtain rfl : i = l.length := by omega
          simp [h6, h7, h17, h95, h96, h97]
          obtain ⟨ou, hou⟩ : ∃ ou, ou = outA l In l.length := ⟨_, rfl⟩
          rw [← hou] at ho1 ⊢
          have hQf : Q (.tup [ownV o1 n 1, natL ou, .int .i64 0]) Hw := by
            rw [hQ]
            refine ⟨o1, ws, ou, by rw [hzl], hHw, ?_, ?_⟩
            · rw [u1, ← hzl]; exact List.length_eq_zero_iff
            have hcap : ((outA l In l.length).length : Int) = (n : Int) := by
              obtain ⟨d1, _⟩ := most_cut (srOf_ok O1) F hs2 L hc
              rw [outA_cap (P := P) (Nat.le_refl _), ← d1, hL1, hIn]
              unfold cap
              rw [show (srOf P (onesL l) fun _ => 0).m = l.length from by simp [srOf]]
            refine ⟨hT.apart, by rw [hou]; omega, ⟨bitsOf (fun p => decide (0 ≤ lv p)) P, ?_⟩, ⟨In, ?_, ?_, hou⟩, hrw⟩
            · have := least_of O1 hs2 ht2 v0 F L hc
              rw [hzl, ← hL1]
              exact this
            · rw [hIn]; simp [L.s0]
            · rw [hIn]; simp; omega
          cases oa with
          | none =>
            have : ou = [] := ho1.1 rfl
            rw [this] at hQf ⊢
            simp
            exact finA_self hQf
          | some b =>
            simp at ho2
            have hone : ¬ ou = [] := fun q => by have := ho1.2 q; cases this
            refine finA_to 2 Hw (Drop.new (Drop.refl _) ho2) ?_
            simp only [frz_tup, List.map_cons, List.map_nil, ownV_some, updO_some]
            rw [frz_ownV (fun b e => by rw [hHw, e]; simp [AHeap.upd]), frz_osl ho2]
            simp
            rw [map_frozen natC_frozen]
            have ht : List.take ou.length (natC ou) = natC ou := List.take_of_length_le (by simp)
            rw [ht]
            have hnu : natL ou = .sl ou.length (natC ou) := by unfold natL; rw [if_neg hone]
            rw [hnu] at hQf
            exact hQf
end Go.Proofs
