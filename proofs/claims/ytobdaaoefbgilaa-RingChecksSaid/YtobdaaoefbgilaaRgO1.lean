/-
  Ring: protocols made by a function; Dijkstra's and the one with four colours, of any size.
-/
import Derived.Test.YtobdaaoefbgilaaG8
import Derived.Test.YtobdaaoefbgilaaRgH0
set_option linter.unusedSimpArgs false
set_option linter.unusedVariables false
set_option linter.unusedSectionVars false
namespace Go.Proofs
open Go Go.AH
set_option maxRecDepth 10000
set_option maxHeartbeats 4000000

/-- How many configurations there are; 0: too many, or none. -/
def sizeN (m c : Int) : Nat := if 2 ≤ m ∧ m ≤ 6 ∧ 2 ≤ c ∧ c ≤ 6 ∧ pw c.toNat m.toNat ≤ 20000 then pw c.toNat m.toNat else 0
theorem sizeN_out {m c : Int} (h : ¬ (2 ≤ m ∧ m ≤ 6 ∧ 2 ≤ c ∧ c ≤ 6)) : sizeN m c = 0 := by
  unfold sizeN
  rw [if_neg]
  exact fun q => h ⟨q.1, q.2.1, q.2.2.1, q.2.2.2.1⟩
theorem sizeN_in {m c : Nat} (q1 : 2 ≤ m) (q2 : m ≤ 6) (q3 : 2 ≤ c) (q4 : c ≤ 6) : sizeN m c = if pw c m ≤ 20000 then pw c m else 0 := by
  unfold sizeN
  simp only [Int.toNat_natCast]
  by_cases h : pw c m ≤ 20000
  · rw [if_pos h, if_pos ⟨by omega, by omega, by omega, by omega, h⟩]
  · rw [if_neg h, if_neg (fun q => h q.2.2.2.2)]
theorem sizeN_ne {m c : Int} (h : ¬ sizeN m c = 0) : ∃ a b : Nat, m = a ∧ c = b ∧ 2 ≤ a ∧ a ≤ 6 ∧ 2 ≤ b ∧ b ≤ 6 ∧ pw b a ≤ 20000 := by
  unfold sizeN at h
  split at h
  · next q =>
    obtain ⟨q1, q2, q3, q4, q5⟩ := q
    exact ⟨m.toNat, c.toNat, by omega, by omega, by omega, by omega, by omega, by omega, q5⟩
  · exact absurd rfl h
theorem w_sizeI (m c : Int) : Pure Try.prog 58 [.int .i64 m, .int .i64 c] (.int .i64 (sizeN m c : Nat)) := by
  by_cases hin : 2 ≤ m ∧ m ≤ 6 ∧ 2 ≤ c ∧ c ≤ 6
  · obtain ⟨q1, q2, q3, q4⟩ := hin
    obtain ⟨m, rfl⟩ : ∃ a : Nat, m = a := ⟨m.toNat, by omega⟩
    obtain ⟨c, rfl⟩ : ∃ a : Nat, c = a := ⟨c.toNat, by omega⟩
    have q4' : c ≤ 6 := by omega
    rw [sizeN_in (by omega) (by omega) (by omega) q4']
    by_cases q5 : pw c m ≤ 20000
    · rw [if_pos q5]; exact w_size m c (by omega) (by omega) (by omega) q4' q5
    · rw [if_neg q5]
      refine pure_of (acalls_of Try.func58 rfl Try.call58 (by kernel_rfl) (by show _ ≤ (30 : Nat); simp) ?_)
      have e1 : ¬ (m : Int) < 2 := by omega
      have e2 : ¬ 6 < (m : Int) := by omega
      have e3 : ¬ (c : Int) < 2 := by omega
      have e4 : ¬ 6 < (c : Int) := by omega
      simp [e1, e2, e3, e4]
      refine awp_loop_g (γ := Nat) (fun k t h => (k ≤ m) ∧ t 1 = .int .i64 c ∧ t 5 = .int .i64 (pw c k : Nat) ∧ t 20 = .int .i64 m ∧ t 21 = .int .i64 k) (fun k => m - k) (0) (turnA_self (by simp [pw_zero])) ?_
      rintro k t h ⟨hk, h1, h5, h20, h21⟩
      by_cases hlt : k < m
      · have hp := pow_le6 q4' (show k + 1 ≤ 6 by omega)
        have hwk : IntKind.i64.wrap ((k : Int) + 1) = (k : Int) + 1 := wrap_i64 (by omega) (by omega)
        have hwp : IntKind.i64.wrap ((pw c k : Int) * (c : Int)) = (pw c (k + 1) : Nat) := by
          rw [pw_succ] at hp ⊢
          rw [← Int.natCast_mul]
          exact wrap_i64 (by omega) (by omega)
        simp [h1, h5, h20, h21, hlt]
        exact turnA_self ⟨k + 1, by omega, by omega, by simp [h1, h5, h20, h21, hwk, hwp]⟩
      · obtain rfl : k = m := by omega
        have g20 : 20000 < (pw c k : Int) := by omega
        simp [h1, h5, h20, h21, g20]
        exact finA_drop rfl
  · rw [sizeN_out hin]
    refine pure_of (acalls_of Try.func58 rfl Try.call58 (by kernel_rfl) (by show _ ≤ (30 : Nat); simp) ?_)
    by_cases e1 : m < 2
    · simp [e1]; exact finA_drop rfl
    · by_cases e2 : 6 < m
      · simp [e1, e2]; exact finA_drop rfl
      · by_cases e3 : c < 2
        · simp [e1, e2, e3]; exact finA_drop rfl
        · have e4 : 6 < c := by omega
          simp [e1, e2, e3, e4]; exact finA_drop rfl
theorem r_SizeI (m c : Int) : Pure Try.prog 27 [.int .i64 m, .int .i64 c] (.int .i64 (sizeN m c : Nat)) := by
  by_cases hin : 2 ≤ m ∧ m ≤ 6 ∧ 2 ≤ c ∧ c ≤ 6
  · obtain ⟨q1, q2, q3, q4⟩ := hin
    obtain ⟨m, rfl⟩ : ∃ a : Nat, m = a := ⟨m.toNat, by omega⟩
    obtain ⟨c, rfl⟩ : ∃ a : Nat, c = a := ⟨c.toNat, by omega⟩
    have q4' : c ≤ 6 := by omega
    rw [sizeN_in (by omega) (by omega) (by omega) q4']
    by_cases q5 : pw c m ≤ 20000
    · rw [if_pos q5]; exact r_Size m c (by omega) (by omega) (by omega) q4' q5
    · rw [if_neg q5]
      refine pure_of (acalls_of Try.func27 rfl Try.call27 (by kernel_rfl) (by show _ ≤ (32 : Nat); simp) ?_)
      have e1 : ¬ (m : Int) < 2 := by omega
      have e2 : ¬ 6 < (m : Int) := by omega
      have e3 : ¬ (c : Int) < 2 := by omega
      have e4 : ¬ 6 < (c : Int) := by omega
      simp [e1, e2, e3, e4]
      refine awp_loop_g (γ := Nat) (fun k t h => (k ≤ m) ∧ t 0 = .int .i64 m ∧ t 1 = .int .i64 c ∧ t 5 = .int .i64 (pw c k : Nat) ∧ t 6 = .int .i64 k) (fun k => m - k) (0) (turnA_self (by simp [pw_zero])) ?_
      rintro k t h ⟨hk, h0, h1, h5, h6⟩
      by_cases hlt : k < m
      · have hp := pow_le6 q4' (show k + 1 ≤ 6 by omega)
        have hwk : IntKind.i64.wrap ((k : Int) + 1) = (k : Int) + 1 := wrap_i64 (by omega) (by omega)
        have hwp : IntKind.i64.wrap ((pw c k : Int) * (c : Int)) = (pw c (k + 1) : Nat) := by
          rw [pw_succ] at hp ⊢
          rw [← Int.natCast_mul]
          exact wrap_i64 (by omega) (by omega)
        simp [h0, h1, h5, h6, hlt]
        exact turnA_self ⟨k + 1, by omega, by omega, by simp [h0, h1, h5, h6, hwk, hwp]⟩
      · obtain rfl : k = m := by omega
        have g20 : 20000 < (pw c k : Int) := by omega
        simp [h0, h1, h5, h6, g20]
        exact finA_drop rfl
  · rw [sizeN_out hin]
    refine pure_of (acalls_of Try.func27 rfl Try.call27 (by kernel_rfl) (by show _ ≤ (32 : Nat); simp) ?_)
    by_cases e1 : m < 2
    · simp [e1]; exact finA_drop rfl
    · by_cases e2 : 6 < m
      · simp [e1, e2]; exact finA_drop rfl
      · by_cases e3 : c < 2
        · simp [e1, e2, e3]; exact finA_drop rfl
        · have e4 : 6 < c := by omega
          simp [e1, e2, e3, e4]; exact finA_drop rfl

structure MQ where
  k : Nat
  V : AV
  HV : AHeap
/-- A row that is one's own as long as it grows. -/
def MInv (HH : AHeap) (row : List Int) (q : MQ) : Prop := (q.k < row.length ∧ ∃ o, q.V = ownV o q.k 1 ∧ q.HV = HH.updO o ((row.take q.k).map (.int .i64)) ∧ (o = none ↔ q.k = 0) ∧ FreshO HH o) ∨ (q.k = row.length ∧ q.V = intsA row ∧ q.HV = HH)
theorem turnA_slotD {K : AF → AHeap → Prop} {t : AF} {h HV : AHeap} (j b : Nat) (l : List Int) (hj : t j = .osl b 0 l.length 1) (hd : Drop HV h) (hc : cellsAt HV b 0 = some (l.map (.int .i64))) (hb : Fresh h b) (q : K (t.put j (intsA l)) h) : turnA K t HV := by
  refine turnA_frz 1 h (t.put j (intsA l)) hd (fun i => ?_) q
  by_cases e : i = j
  · subst e
    right
    rw [hj, frz_osl hb, hc]
    simp [AF.put, intsA]
    rw [List.take_of_length_le (by simp)]
    exact List.map_congr_left fun _ _ => rfl
  · left
    simp [AF.put, e]
theorem turnA_row1 {K : AF → AHeap → Prop} {t : AF} {HH HV : AHeap} {row : List Int} {k b : Nat} (hk : k < row.length) (hb : Fresh HH b) (j : Nat) (hj : t j = .osl b 0 (k + 1) 1) (hd : Drop HV (HH.upd b (.cells ((row.take (k + 1)).map (.int .i64)))))
    (hc : cellsAt HV b 0 = some ((row.take (k + 1)).map (.int .i64))) (q : ∀ V HV, MInv HH row ⟨k + 1, V, HV⟩ → K (t.put j V) HV) : turnA K t HV := by
  by_cases e : k + 1 = row.length
  · have htk : row.take (k + 1) = row := List.take_of_length_le (by omega)
    rw [htk] at hc hd
    have hd2 : Drop HV HH := fun x => by
      by_cases hx : x = b
      · subst hx; exact .inl hb
      · have := hd x; rw [AHeap.upd_ne hx] at this; exact this
    exact turnA_slotD j b row (by rw [hj, e]) hd2 hc hb (q _ _ (.inr ⟨e, rfl, rfl⟩))
  · have hs : t.put j (.osl b 0 (k + 1) 1) = t := by
      apply funext; intro i
      simp only [AF.put]
      split
      · next e => subst e; exact hj.symm
      · rfl
    have := q (.osl b 0 (k + 1) 1) (HH.upd b (.cells ((row.take (k + 1)).map (.int .i64)))) (.inl ⟨by show k + 1 < _; omega, some b, rfl, rfl, by simp, hb⟩)
    rw [hs] at this
    exact turnA_to _ hd this
theorem w_made (m c : Nat) (hm : 0 < m ∧ m ≤ 6) (hc : 0 < c ∧ c ≤ 6) (fv : AV) (hf1 : fv.one = true) (T : Nat → Nat → Int) (S : AHeap → Prop) (hSu : ∀ h l c, S h → h l = none → S (h.upd l c))
    (hT : ∀ h, S h → ∀ i, i < m → ∀ k, k < c * c * c → ACallV Try.prog fv [.int .i64 i, .int .i64 (k / c / c : Nat), .int .i64 (k / c % c : Nat), .int .i64 (k % c : Nat)] h fun a h' => a = .int .i64 (T i k) ∧ h' = h) (H : AHeap) (hH : S H) :
    ACalls Try.prog 60 [.int .i64 m, .int .i64 c, fv] H fun a h => a = .agg [.int .i64 m, .int .i64 c, rowsA ((List.range m).map fun i => (List.range (c * c * c)).map (T i))] ∧ h = H := by
  refine acalls_of Try.func60 rfl Try.call60 (by kernel_rfl) (by show _ ≤ (54 : Nat); simp) ?_
  have hcc := ccc_le hc.2
  have hcp : 0 < c * c * c := Nat.mul_pos (Nat.mul_pos hc.1 hc.1) hc.1
  have hw2 : IntKind.i64.wrap (((c * c : Nat) : Int) * (c : Int)) = ((c * c * c : Nat) : Int) := by rw [← Int.natCast_mul]; exact wrap_i64 (by omega) (by omega)
  have hw1 : IntKind.i64.wrap ((c : Int) * (c : Int)) = ((c * c : Nat) : Int) := by
    rw [← Int.natCast_mul]
    have : c * c ≤ c * c * c := Nat.le_mul_of_pos_right _ hc.1
    exact wrap_i64 (by omega) (by omega)
  obtain ⟨N, hN⟩ : ∃ N, N = c * c * c := ⟨_, rfl⟩
  rw [← hN] at hcc hcp hw2 hT ⊢
  obtain ⟨row, hrow⟩ : ∃ row : Nat → List Int, row = fun i => (List.range N).map (T i) := ⟨_, rfl⟩
  have hrl : ∀ i, (row i).length = N := by intro i; rw [hrow]; simp
  have hrg : ∀ i k, k < N → (row i).take (k + 1) = (row i).take k ++ [T i k] := by
    intro i k hk
    rw [List.take_succ_eq_append_getElem (by rw [hrl]; exact hk)]
    congr 2
    simp [hrow]
  rw [show ((List.range m).map fun i => (List.range N).map (T i)) = (List.range m).map row from by rw [hrow]]
  simp
  intro b6 hb6
  simp
  intro b7 hb7
  obtain ⟨n76, n67, hb7'⟩ : ¬ b7 = b6 ∧ ¬ b6 = b7 ∧ Fresh H b7 := by simpa using hb7
  simp [n76, n67, splice]
  refine awp_loop_g (γ := At) (fun q t h => (q.i ≤ m) ∧ ((q.o = none ↔ q.i = 0) ∧ ¬ q.o = some b6 ∧ ¬ q.o = some b7 ∧ FreshO H q.o) ∧ t 1 = .int .i64 c ∧ t 2 = fv ∧ t 6 = .ptr b6 0 ∧ t 7 = .ptr b7 0 ∧ t 14 = .int .i64 m ∧ t 15 = .int .i64 q.i ∧ h = ((H.upd b6 (.cells [.int .i64 0, .int .i64 0, .nilsl])).upd b7 (.cells [.int .i64 m, .int .i64 c, ownV q.o q.i 1])).updO q.o ((List.range q.i).map fun i => intsA (row i))) (fun q => m - q.i) (⟨0, none⟩) (turnA_self (by simp)) ?_
  rintro q t hx ⟨hi, ho, h1, h2, h6, h7, h14, h15, ex⟩
  rw [ex]
  clear ex
  obtain ⟨i, o⟩ := q
  simp only at h1 h2 h6 h7 h14 h15 hi ho
  obtain ⟨ho1, ho2, ho3, ho4⟩ := ho
  by_cases hlt : i < m
  · have hwi : IntKind.i64.wrap ((i : Int) + 1) = (i : Int) + 1 := wrap_i64 (by omega) (by omega)
    obtain ⟨HH, hHH⟩ : ∃ HH, HH = ((H.upd b6 (.cells [.int .i64 0, .int .i64 0, .nilsl])).upd b7 (.cells [.int .i64 m, .int .i64 c, ownV o i 1])).updO o ((List.range i).map fun i => intsA (row i)) := ⟨_, rfl⟩
    have hS1 : S ((H.upd b6 (.cells [.int .i64 0, .int .i64 0, .nilsl])).upd b7 (.cells [.int .i64 m, .int .i64 c, ownV o i 1])) := hSu _ _ _ (hSu _ _ _ hH hb6) hb7
    have hSH : S HH := by
      rw [hHH]
      cases o with
      | none => exact hS1
      | some b =>
        refine hSu _ _ _ hS1 ?_
        rw [AHeap.upd_ne (fun e => ho3 (by rw [e])), AHeap.upd_ne (fun e => ho2 (by rw [e]))]
        exact ho4
    simp [h1, h2, h6, h7, h14, h15, hlt, hw1, hw2]
    rw [← hHH]
    refine loop_cut (fun t hq => t 1 = .int .i64 c ∧ t 2 = fv ∧ t 6 = .ptr b6 0 ∧ t 7 = .ptr b7 0 ∧ t 14 = .int .i64 m ∧ t 15 = .int .i64 i ∧ t 8 = .int .i64 i ∧ t 9 = intsA (row i) ∧ hq = HH) ?_ ?_
    · skip
      refine awp_loop_g (γ := MQ) (fun q t h => (MInv HH (row i) q) ∧ t 1 = .int .i64 c ∧ t 2 = fv ∧ t 6 = .ptr b6 0 ∧ t 7 = .ptr b7 0 ∧ t 14 = .int .i64 m ∧ t 15 = .int .i64 i ∧ t 8 = .int .i64 i ∧ t 9 = q.V ∧ t 22 = .int .i64 N ∧ t 23 = .int .i64 q.k ∧ h = q.HV) (fun q => N - q.k) (⟨0, .nilsl, HH⟩) (turnA_self (by simp [h1, h2, h6, h7, h14, h15]; exact ⟨.inl ⟨by rw [hrl]; exact hcp, none, rfl, by simp, by simp, by simp⟩, hw2⟩)) ?_
      rintro q t hx ⟨hq, h1, h2, h6, h7, h14, h15, h8, h9, h22, h23, ex⟩
      rw [ex]
      clear ex
      obtain ⟨k, V, HV⟩ := q
      rcases hq with ⟨hk, o2, hV, hHV, ho5, ho6⟩ | ⟨hk, hV, hHV⟩
      · simp only at h1 h2 h6 h7 h14 h15 h8 h9 h22 h23 hk hV hHV ho5
        subst hV hHV
        rw [hrl] at hk
        have hkI : (k : Int) < (N : Int) := by omega
        have hwk : IntKind.i64.wrap ((k : Int) + 1) = (k : Int) + 1 := wrap_i64 (by omega) (by omega)
        have hS2 : S (HH.updO o2 (((row i).take k).map (.int .i64))) := by
          cases o2 with
          | none => exact hSH
          | some b => exact hSu _ _ _ hSH ho6
        have ct := hT _ hS2 i hlt k hk
        have hc0 : ¬ (c : Int) = 0 := by omega
        simp [h1, h2, h6, h7, h14, h15, h8, h9, h22, h23, hk, hkI]
        refine awp_draw_text (by kernel_rfl) [] [] (by kernel_rfl) (by kernel_rfl) (by simp) ?_
        have hc0' : ¬ c = 0 := by omega
        have d1 : IntKind.i64.wrap ((k : Int) / (c : Int)) = ((k / c : Nat) : Int) := by
          rw [← Int.natCast_ediv]
          have := Nat.div_le_self k c
          obtain ⟨y, hy⟩ : ∃ y, y = k / c := ⟨_, rfl⟩
          rw [← hy] at this ⊢
          exact wrap_i64 (by omega) (by omega)
        have d2 : IntKind.i64.wrap (Int.tdiv ((k / c : Nat) : Int) (c : Int)) = ((k / c / c : Nat) : Int) := by
          have h1 := Nat.div_le_self k c
          have h2 := Nat.div_le_self (k / c) c
          rw [show Int.tdiv ((k / c : Nat) : Int) (c : Int) = ((k / c / c : Nat) : Int) from rfl]
          obtain ⟨y, hy⟩ : ∃ y, y = k / c / c := ⟨_, rfl⟩
          rw [← hy] at h2 ⊢
          exact wrap_i64 (by omega) (by omega)
        have d3 : Int.tmod ((k / c : Nat) : Int) (c : Int) = ((k / c % c : Nat) : Int) := rfl
        have d4 : Int.tmod (k : Int) (c : Int) = ((k % c : Nat) : Int) := rfl
        simp [h1, h2, h6, h7, h14, h15, h8, h9, h22, h23, hc0']
        rw [d1, d2, d3, d4, ← List.map_take]
        refine ACallV.mono ct ?_
        rintro _ _ ⟨rfl, rfl⟩
        simp [h1, h2, h6, h7, h14, h15, h8, h9, h22, h23]
        intro b1 hb1
        obtain ⟨x1, x4⟩ : ¬ o2 = some b1 ∧ Fresh HH b1 := by simpa using hb1
        simp [h1, h2, h6, h7, h14, h15, h8, h9, h22, h23, x1]
        rw [← List.map_take]
        refine appendA_updO (by omega) (by omega) (fun e => by rw [ho5.1 e]; rfl) (by simp [hrl]; omega) (by simp) (by cases o2 with | none => simp | some b => simp at x1 ho6 ⊢; simp [ho6, x1]; exact fun e => x1 e.symm) fun b' hb' => ?_
        obtain ⟨y1, y2, y5⟩ : ¬ b' = b1 ∧ ¬ b1 = b' ∧ Fresh HH b' := by simpa [x1] using hb'
        have hg := hrg i k hk
        have hcs : ((row i).take (k + 1)).map (AV.int .i64) = ((row i).take k).map (AV.int .i64) ++ [.int .i64 (T i k)] := by rw [hg]; simp
        simp [h1, h2, h6, h7, h14, h15, h8, h9, h22, h23, y1, y2]
        rw [← List.map_take]
        refine turnA_row1 (HH := HH) (row := row i) (k := k) (b := b') (by rw [hrl]; exact hk) y5 9 (by simp) (by rw [hcs]; exact Drop.both (Drop.new (Drop.refl _) x4)) (by rw [hcs]; simp) fun V HV hM => ?_
        exact ⟨⟨k + 1, V, HV⟩, by simp only; omega, hM, by simp [h1, h2, h6, h7, h14, h15, h8, h9, h22, h23, hwk]⟩
      · simp only at h1 h2 h6 h7 h14 h15 h8 h9 h22 h23 hk hV hHV
        rw [hrl] at hk
        subst hV hHV hk
        simp [h1, h2, h6, h7, h14, h15, h8, h9, h22, h23]
    · skip
      intro t hq ⟨h1, h2, h6, h7, h14, h15, h8, h9, ehq⟩
      rw [ehq]
      clear ehq
      have hHc : cellsAt HH b7 0 = some [.int .i64 m, .int .i64 c, ownV o i 1] := by rw [hHH]; simp [ho3]
      simp [h1, h2, h6, h7, h14, h15, h8, h9, hHH, ho2, ho3, n76, n67]
      intro b1 hb1
      simp at hb1
      simp [h1, h2, h6, h7, h14, h15, h8, h9, hHH, ho2, ho3, n76, n67, hb1]
      refine appendA_updO (by omega) (by omega) (fun e => by rw [ho1.1 e]; rfl) (by simp) (by simp) (by cases o with | none => simp | some b => simp at hb1 ho2 ho3 ho4 ⊢; simp [ho2, ho3, ho4, hb1]; exact ⟨fun e => hb1.1 e.symm, fun e => ho3 e.symm, fun e => ho2 e.symm⟩) fun b' hb' => ?_
      simp [n76, n67, hb1, ho2, ho3] at hb'
      simp [h1, h2, h6, h7, h14, h15, h8, h9, hb', hb1, n76, n67]
      refine turnA_to (((H.upd b6 (.cells [.int .i64 0, .int .i64 0, .nilsl])).upd b7 (.cells [.int .i64 m, .int .i64 c, ownV (some b') (i + 1) 1])).updO (some b') ((List.range (i + 1)).map fun i => intsA (row i))) ?_ ⟨⟨i + 1, some b'⟩, by simp only; omega, by simp only; omega, by simp [hb'], by simp [h1, h2, h6, h7, h14, h15, h8, h9, hwi]⟩
      rw [List.range_succ, List.map_append]
      simp
      exact Drop.both (Drop.new (Drop.refl _) (by simp [hb1]))
  · obtain rfl : i = m := by omega
    simp [h1, h2, h6, h7, h14, h15, ho2, ho3, n76, n67]
    cases o with
    | none => have := ho1.1 rfl; omega
    | some b =>
      have ho4' : Fresh H b := ho4
      refine finA_to 3 H (Drop.new (Drop.new (Drop.new (Drop.refl _) hb6) hb7') ho4) ⟨?_, rfl⟩
      rw [frz_agg]
      simp only [List.map_cons, List.map_nil, ownV_some, updO_some]
      rw [frz_osl ho4']
      simp [rowsA, Function.comp_def]
      rw [List.take_of_length_le (by simp)]
end Go.Proofs
