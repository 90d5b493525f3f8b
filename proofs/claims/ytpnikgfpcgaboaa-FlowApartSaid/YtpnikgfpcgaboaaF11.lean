/-
  Texts: FlT4 FlT5 FlT6.
-/
import Derived.Test.YtpnikgfpcgaboaaF10
set_option linter.unusedSimpArgs false
set_option linter.unusedVariables false
set_option linter.unusedSectionVars false
section
/-
  Flow: the reference's AreApart.
-/
namespace Go.Proofs
open Go Go.AH
set_option maxRecDepth 10000
set_option maxHeartbeats 4000000

/-- A row of numbers, as a caller may hand it on. -/
def RowIs (a : AV) (w : List Int) : Prop := (a = .nilsl ∧ w = []) ∨ a = .sl w.length (intC w)
theorem RowIs.one {a : AV} {w : List Int} (h : RowIs a w) : a.one = true := by rcases h with ⟨rfl, _⟩ | rfl <;> rfl
theorem RowIs.fit {a : AV} {w : List Int} (h : RowIs a w) : a.fit = true := by rcases h with ⟨rfl, _⟩ | rfl <;> rfl
theorem RowIs.cells {a : AV} {w : List Int} (h : RowIs a w) : a.cells = [a] := by rcases h with ⟨rfl, _⟩ | rfl <;> rfl
theorem RowIs.len {a : AV} {w : List Int} (h : RowIs a w) (g : AHeap) : lenA Try.prog g 34 a = some (.int .i64 w.length) := by
  rcases h with ⟨rfl, rfl⟩ | rfl <;> simp
theorem RowIs.sl {a : AV} {w : List Int} (h : RowIs a w) {k : Nat} (hk : k < w.length) : a = .sl w.length (intC w) := by
  rcases h with ⟨_, rfl⟩ | h
  · simp at hk
  · exact h
/-- Lists of such rows. -/
structure RowsIs (V : AV) (rows : List AV) (ws : List (List Int)) : Prop where
  one : V.one = true
  fit : V.fit = true
  cells : V.cells = [V]
  len : ∀ g, lenA Try.prog g 61 V = some (.int .i64 ws.length)
  sl : ∀ i, i < ws.length → V = .sl ws.length rows
  row : ∀ i (h : i < ws.length), ∃ a, rows.drop i = a :: rows.drop (i + 1) ∧ RowIs a ws[i]
structure RX where
  i : Nat
  U : Nat → Bool
structure RY where
  k : Nat
  U : Nat → Bool
  e : Nat
  seen : List Nat
  b : Nat
theorem contains_nat {seen : List Nat} {x : Nat} : (seen.map fun x : Nat => (x : Int)).contains (x : Int) = decide (x ∈ seen) := by
  rw [Bool.eq_iff_iff]
  simp
  exact ⟨fun ⟨a, h, e⟩ => by rwa [show x = a from by omega], fun h => ⟨x, h, rfl⟩⟩
theorem l_HasO (seen : List Nat) (hne : seen ≠ []) (hl : seen.length ≤ 1000000) (x : Nat) (b : Nat) (H : AHeap) (hb : H b = some (.cells (natC seen))) :
    ACalls Try.prog 26 [.osl b 0 seen.length 1, .int .i64 x] H fun r h' => r = .bool (decide (x ∈ seen)) ∧ h' = H := by
  have hL := l_Has (seen.map fun x : Nat => (x : Int)) (by simpa using hl) x
  rw [contains_nat] at hL
  refine Pure.lend (k := 2) (r := .bool (decide (x ∈ seen))) rfl ?_ ⟨rfl, rfl⟩
  have ht : List.take seen.length (natC seen) = natC seen := List.take_of_length_le (by simp)
  have e : ([.osl b 0 seen.length 1, .int .i64 x] : List AV).map (frzF 2 H AHeap.empty) = [intL (seen.map fun x : Nat => (x : Int)), .int .i64 x] := by
    simp only [List.map_cons, List.map_nil]
    rw [frz_osl (by simp), cellsAt_eq hb]
    simp
    rw [map_frozen natC_frozen, ht]
    rw [← natL_int]; unfold natL; rw [if_neg hne]
  rw [e]
  exact hL
theorem runR_step {l : List RArc} {s t : Nat} {U : Nat → Bool} {w : List Int} {r : List (List Int)} : runR l s t U (w :: r) = match wayR l U s [s] w with
    | none => none
    | some (V, e) => if e = t then runR l s t V r else none := rfl
theorem l_AreApart (P : Nat) (l : List RArc) (O : ArcsOk P l fun _ => 0) (s T : Nat) (hs : s < P) (hT : T < P) (hst : s ≠ T) (V : AV) (rows : List AV) (ws : List (List Int)) (hV : RowsIs V rows ws) (hwl : ws.length ≤ 18000000000000) (hrl : ∀ w ∈ ws, w.length ≤ 18000000000000) :
    Pure Try.prog 29 [netV P l, .int .i64 s, .int .i64 T, V] (.bool (apartR l s T ws)) := by
  refine pure_of (acalls_of Try.func29 rfl Try.call29 (by kernel_rfl) (by show _ ≤ (106 : Nat); simp) ?_)
  have l200 := O.len
  have P24 := O.P24
  have ck := l_Check P l (by omega) (ArcsV.l l)
  have ce := l_Ends P s T
  rw [chk_of_ok O] at ck
  rw [if_pos (ends_ok hs hT hst)] at ce
  obtain ⟨A, hA⟩ : ∃ A, A = arcsL l := ⟨_, rfl⟩
  have hA1 : A.one = true := by rw [hA]; simp
  have hA2 : A.fit = true := by rw [hA]; simp
  have hA3 : A.cells = [A] := by rw [hA]; simp
  have hA4 : ∀ h, lenA Try.prog h 22 A = some (.int .i64 (l.length : Int)) := fun h => by
    rw [hA]; unfold arcsL
    split
    · next e => subst e; simp
    · simp [arcsA]
  obtain ⟨r, hr⟩ : ∃ r, r = apartR l s T ws := ⟨_, rfl⟩
  rw [← hr]
  have v1 := hV.one
  have v2 := hV.fit
  have v3 := hV.cells
  have v4 := hV.len
  unfold netV
  rw [← hA] at ck ⊢
  simp [hA1, hA2, hA3, v1, v2, v3]
  intro b4 hb4
  simp [hA1, hA2, hA3, v1, v2, v3]
  refine ck.use ?_
  simp
  refine ce.use ?_
  simp [hA4, -lenA]
  have hrep : List.replicate l.length (AV.bool false) = barr l.length fun _ => false := by
    refine List.ext_getElem (by simp) fun i h1 h2 => by simp [barr]
  rw [hrep]
  refine ⟨by omega, ?_⟩
  intro bu hbu
  simp at hbu
  simp [hbu]
  refine awp_loop_g (γ := RX) (fun q t h => (q.i ≤ ws.length) ∧ (runR l s T (fun _ => false) ws = runR l s T q.U (ws.drop q.i)) ∧ t 1 = .int .i64 s ∧ t 2 = .int .i64 T ∧ t 3 = V ∧ t 4 = .ptr b4 0 ∧ t 9 = .osl bu 0 l.length 1 ∧ t 10 = .int .i64 q.i ∧ h = (AHeap.empty.upd b4 (.cells [.int .i64 P, A])).upd bu (.cells (barr l.length q.U))) (fun q => ws.length - q.i) (⟨0, fun _ => false⟩) (turnA_self (by simp [hbu])) ?_
  rintro q t hx ⟨hi, hR, h1, h2, h3, h4, h9, h10, ex⟩
  rw [ex]
  clear ex
  obtain ⟨i, U⟩ := q
  simp only at h1 h2 h3 h4 h9 h10 hi hR
  by_cases hlt : i < ws.length
  · have hltI : (i : Int) < (ws.length : Int) := by omega
    have hwi : IntKind.i64.wrap ((i : Int) + 1) = (i : Int) + 1 := wrap_i64 (by omega) (by omega)
    obtain ⟨w, hw⟩ : ∃ w, w = ws[i] := ⟨_, rfl⟩
    obtain ⟨a0, hrow, hai⟩ := hV.row i hlt
    have hwb : w.length ≤ 18000000000000 := hrl w (hw ▸ List.getElem_mem hlt)
    rw [List.drop_eq_getElem_cons hlt, ← hw, runR_step] at hR
    rw [← hw] at hai
    have hVs := hV.sl i hlt
    have hir : i < rows.length := by have := congrArg List.length hrow; simp at this; omega
    have g1 := hai.one
    have g2 := hai.fit
    have g3 := hai.cells
    have g4 := hai.len
    have hfalse : wayR l U s [s] w = none → r = false := fun h => by
      rw [h] at hR
      rw [hr, apartR, hR]; rfl
    simp [h1, h2, h3, h4, h9, h10, v4, hltI, hlt, -lenA]
    intro bs hbs
    simp [hbu] at hbs
    simp [hbs]
    rw [hVs] at v1 v2 v3 v4
    refine awp_loop_g (γ := RY) (fun y t h => (y.k ≤ w.length) ∧ (wayR l U s [s] w = wayR l y.U y.e y.seen (w.drop y.k)) ∧ (y.seen.length = y.k + 1 ∧ y.seen.Nodup ∧ ∀ z ∈ y.seen, z < P) ∧ (¬ y.b = b4 ∧ ¬ y.b = bu) ∧ t 1 = .int .i64 s ∧ t 2 = .int .i64 T ∧ t 3 = .sl ws.length rows ∧ t 4 = .ptr b4 0 ∧ t 9 = .osl bu 0 l.length 1 ∧ t 10 = .int .i64 i ∧ t 11 = .int .i64 y.e ∧ t 12 = .osl y.b 0 (y.k + 1) 1 ∧ t 13 = .int .i64 y.k ∧ h = ((AHeap.empty.upd b4 (.cells [.int .i64 P, A])).upd bu (.cells (barr l.length y.U))).upd y.b (.cells (natC y.seen))) (fun y => w.length - y.k) (⟨0, U, s, [s], bs⟩) (turnA_self (by simp [h1, h2, h3, h4, h9, h10, hbs, hVs, natC, hs])) ?_
    rintro y t hy ⟨hk, hW, hsn, hb, h1, h2, h3, h4, h9, h10, h11, h12, h13, ey⟩
    rw [ey]
    clear ey
    obtain ⟨k, U1, e, seen, b⟩ := y
    simp only at h1 h2 h3 h4 h9 h10 h11 h12 h13 hk hW hsn hb
    obtain ⟨n1, n2, n3⟩ := hsn
    obtain ⟨m1, m2⟩ := hb
    have m1' : ¬ b4 = b := fun q => m1 q.symm
    have m2' : ¬ bu = b := fun q => m2 q.symm
    have hs24 : seen.length ≤ P := nodup_lt' _ _ n2 n3
    by_cases hkt : k < w.length
    · have hktI : (k : Int) < (w.length : Int) := by omega
      have hwk : IntKind.i64.wrap ((k : Int) + 1) = (k : Int) + 1 := wrap_i64 (by omega) (by omega)
      obtain ⟨a, ha⟩ : ∃ a, a = w[k] := ⟨_, rfl⟩
      have has : a0 = .sl w.length (intC w) := hai.sl hkt
      rw [has] at g1 g2 g3 g4
      have hac : w[k]? = some a := by rw [ha]; exact List.getElem?_eq_getElem hkt
      rw [List.drop_eq_getElem_cons hkt, ← ha] at hW
      have hbad : badA l U1 e seen a → r = false := fun h => hfalse (by rw [hW, wayR, if_pos h])
      by_cases c1 : a < 0
      · obtain rfl := hbad (.inl c1)
        simp [h1, h2, h3, h4, h9, h10, h11, h12, h13, hktI, hkt, hlt, hltI, hrow, hir, g4, has, intC_at hac, c1]
        refine finA_drop ?_
        rfl
      obtain ⟨d, rfl⟩ : ∃ d : Nat, a = d := ⟨a.toNat, by omega⟩
      have d0 : ¬ (d : Int) < 0 := by omega
      by_cases c2 : d < l.length
      rotate_left
      · obtain rfl := hbad (.inr (.inl (by omega)))
        have c2I : (l.length : Int) ≤ (d : Int) := by omega
        simp [h1, h2, h3, h4, h9, h10, h11, h12, h13, hktI, hkt, hlt, hltI, hrow, hir, g4, has, intC_at hac, d0, c2, c2I, hA4, -lenA, m1, m2, m1', m2', hbu]
        refine finA_drop ?_
        rfl
      have c2I : ¬ (l.length : Int) ≤ (d : Int) := by omega
      have c2J : (d : Int) < (l.length : Int) := by omega
      have hne : ¬ l = [] := fun e => by rw [e] at c2; simp at c2
      have hAs : A = .sl l.length (arcC l) := by rw [hA]; unfold arcsL arcsA; rw [if_neg hne]
      by_cases c3 : U1 d = true
      · obtain rfl := hbad (.inr (.inr (.inl (by simpa using c3))))
        simp [h1, h2, h3, h4, h9, h10, h11, h12, h13, hktI, hkt, hlt, hltI, hrow, hir, g4, has, intC_at hac, d0, c2, c2I, c2J, hA4, -lenA, m1, m2, m1', m2', hbu, barr_dr c2, c3]
        refine finA_drop ?_
        rfl
      have c3f : U1 d = false := by simpa using c3
      have hati := arcC_at c2
      obtain ⟨x, hx⟩ : ∃ x, x = l[d] := ⟨_, rfl⟩
      rw [← hx] at hati
      have hxo := arcOk_iff.1 (O.ok x (hx ▸ List.getElem_mem c2))
      have hi3 : 3 ≤ l.length * 3 - d * 3 := by omega
      have hi4 : min 3 (l.length * 3 - d * 3) = 3 := by omega
      have hxa : arcAt l d = x := by rw [hx]; simp [arcAt, List.getD_eq_getElem?_getD, c2]
      obtain ⟨xa, hxa1⟩ : ∃ xa : Nat, x.a = xa := ⟨x.a.toNat, by omega⟩
      obtain ⟨xb, hxb1⟩ : ∃ xb : Nat, x.b = xb := ⟨x.b.toNat, by omega⟩
      have hxbP : xb < P := by omega
      have hfr : fromN l d = xa := by unfold fromN; rw [hxa, hxa1]; rfl
      have hto : toN l d = xb := by unfold toN; rw [hxa, hxb1]; rfl
      by_cases c4 : xa = e
      rotate_left
      · have c4I : ¬ (xa : Int) = (e : Int) := by omega
        obtain rfl := hbad (.inr (.inr (.inr (.inl (by simp only [Int.toNat_natCast]; rw [hfr]; exact c4)))))
        simp [h1, h2, h3, h4, h9, h10, h11, h12, h13, hktI, hkt, hlt, hltI, hrow, hir, g4, has, intC_at hac, d0, c2, c2I, c2J, hA4, -lenA, m1, m2, m1', m2', hbu, barr_dr c2, c3f]
        simp [h1, h2, h3, h4, h9, h10, h11, h12, h13, hAs, hati, hi3, hi4, c2, c2J, c2I, d0, c3f, hxa1, hxb1, c4I, c4, m1, m2, m1', m2', hbu, barr_dr c2]
        refine finA_drop ?_
        rfl
      have c4I : (xa : Int) = (e : Int) := by omega
      have hHas := l_HasO seen (fun q => by rw [q] at n1; simp at n1) (by omega) xb b
      rw [n1] at hHas
      simp [h1, h2, h3, h4, h9, h10, h11, h12, h13, hktI, hkt, hlt, hltI, hrow, hir, g4, has, intC_at hac, d0, c2, c2I, c2J, hA4, -lenA, m1, m2, m1', m2', hbu, barr_dr c2, c3f]
      simp [h1, h2, h3, h4, h9, h10, h11, h12, h13, hAs, hati, hi3, hi4, c2, c2J, c2I, d0, c3f, hxa1, hxb1, c4I, c4, m1, m2, m1', m2', hbu, barr_dr c2]
      refine ACalls.mono (hHas _ (by simp)) ?_
      rintro _ _ ⟨rfl, rfl⟩
      by_cases c5 : xb ∈ seen
      · obtain rfl := hbad (.inr (.inr (.inr (.inr (by simp only [Int.toNat_natCast]; rw [hto]; exact c5)))))
        simp [h1, h2, h3, h4, h9, h10, h11, h12, h13, c5]
        refine finA_drop ?_
        rfl
      have hgood : ¬ badA l U1 e seen (d : Int) := by
        unfold badA
        simp only [Int.toNat_natCast]
        rw [hfr, hto]
        rintro (q | q | q | q | q)
        · exact c1 q
        · exact c2I q
        · exact c3 q
        · exact q c4
        · exact c5 q
      rw [wayR, if_neg hgood] at hW
      simp only [Int.toNat_natCast] at hW
      rw [hto] at hW
      simp [h1, h2, h3, h4, h9, h10, h11, h12, h13, c5, hAs, hati, hi3, hi4, c2, c2J, c2I, m1, m2, m1', m2', hbu, barr_dr c2, splice_one, barr_set, hxb1]
      refine ⟨by omega, ?_⟩
      intro b2 hb2
      simp [m1, m2, m1', m2', hbu] at hb2
      simp [h1, h2, h3, h4, h9, h10, h11, h12, h13, hb2, m1, m2, m1', m2', hbu, n1]
      refine ⟨by omega, fun b3 hb3 => ?_⟩
      simp [hb2, m1, m2, m1', m2', hbu] at hb3
      have hns : natC seen ++ [.int .i64 (xb : Int)] = natC (seen ++ [xb]) := by simp [natC]
      simp [h1, h2, h3, h4, h9, h10, h11, h12, h13, hb2, hns]
      rw [← hAs]
      refine turnA_to (((AHeap.empty.upd b4 (.cells [.int .i64 P, A])).upd bu (.cells (barr l.length (upf U1 d true)))).upd b3 (.cells (natC (seen ++ [xb])))) ?_ ⟨⟨k + 1, upf U1 d true, xb, seen ++ [xb], b3⟩, by simp only; omega, by simp only; omega, hW, ?_, ?_, by simp [h1, h2, h3, h4, h9, h10, h11, h12, h13, hwk, hAs]⟩
      · exact Drop.both (Drop.new (Drop.refl _) (by simp [hb2]))
      · refine ⟨by simp [n1], ?_, fun z hz => ?_⟩
        · rw [List.nodup_append]
          exact ⟨n2, by simp, fun a ha b hb => by simp at hb; subst hb; rintro rfl; exact c5 ha⟩
        · rcases List.mem_append.1 hz with q | q
          · exact n3 z q
          · simp at q; omega
      · exact ⟨by simp [hb3], by simp [hb3]⟩
    · obtain rfl : k = w.length := by omega
      rw [List.drop_length] at hW
      rw [hW] at hR
      simp only [wayR] at hR
      by_cases c : e = T
      · subst c
        rw [if_pos rfl] at hR
        simp [h1, h2, h3, h4, h9, h10, h11, h12, h13, hlt, hltI, hrow, hir, g4, -lenA, m1, m2, m1', m2', hbu]
        refine turnA_to ((AHeap.empty.upd b4 (.cells [.int .i64 P, A])).upd bu (.cells (barr l.length U1))) (Drop.new (Drop.refl _) (by simp [m1, m2, m1', m2'])) ⟨⟨i + 1, U1⟩, by simp only; omega, by simp only; omega, hR, by simp [h1, h2, h3, h4, h9, h10, h11, h12, h13, hwi, hVs]⟩
      · have cI : ¬ (e : Int) = (T : Int) := by omega
        rw [if_neg c] at hR
        obtain rfl : r = false := by rw [hr, apartR, hR]; rfl
        simp [h1, h2, h3, h4, h9, h10, h11, h12, h13, hlt, hltI, hrow, hir, g4, -lenA, m1, m2, m1', m2', hbu, cI, c]
        refine finA_drop ?_
        rfl
  · obtain rfl : i = ws.length := by omega
    rw [List.drop_length] at hR
    obtain rfl : r = true := by rw [hr, apartR, hR]; rfl
    simp [h1, h2, h3, h4, h9, h10, v4, -lenA]
    refine finA_drop ?_
    rfl
end Go.Proofs

end

section
/-
  Flow: AreApart.
-/
namespace Go.Proofs
open Go Go.AH
set_option maxRecDepth 10000
set_option maxHeartbeats 4000000

noncomputable def seenM (l : List Nat) : List (AV × AV) := l.map fun x : Nat => (.int .i64 (x : Int), .bool true)
theorem seenM_get (x : Nat) : ∀ l : List Nat, mapGet (seenM l) (.int .i64 (x : Int)) = if x ∈ l then some (.bool true) else none
  | [] => rfl
  | y :: l => by
    have ih := seenM_get x l
    unfold seenM at ih ⊢
    simp only [List.map_cons, mapGet]
    by_cases e : y = x
    · subst e; simp
    · have e1 : ¬ AV.int .i64 (y : Int) = AV.int .i64 (x : Int) := fun q => by
        have : (y : Int) = x := by injection q
        omega
      rw [if_neg e1, ih]
      have e2 : ¬ x = y := fun q => e q.symm
      simp [e2]
theorem seenM_set {x : Nat} {l : List Nat} (h : x ∉ l) : mapSet (seenM l) (.int .i64 (x : Int)) (.bool true) = seenM (l ++ [x]) := by
  have := seenM_get x l
  rw [if_neg h] at this
  rw [mapSet_none this]
  simp [seenM]
theorem w_AreApart (P : Nat) (l : List RArc) (O : ArcsOk P l fun _ => 0) (s T : Nat) (hs : s < P) (hT : T < P) (hst : s ≠ T) (V : AV) (rows : List AV) (ws : List (List Int)) (hV : RowsIs V rows ws) (hwl : ws.length ≤ 18000000000000) (hrl : ∀ w ∈ ws, w.length ≤ 18000000000000) :
    Pure Try.prog 30 [netV P l, .int .i64 s, .int .i64 T, V] (.bool (apartR l s T ws)) := by
  refine pure_of (acalls_of Try.func30 rfl Try.call30 (by kernel_rfl) (by show _ ≤ (98 : Nat); simp) ?_)
  have l200 := O.len
  have P24 := O.P24
  have ck := w_CheckN P l (by omega)
  have ce := w_areEnds P s T
  rw [chk_of_ok O] at ck
  rw [ends_ok hs hT hst] at ce
  obtain ⟨A, hA⟩ : ∃ A, A = arcsL l := ⟨_, rfl⟩
  have hA1 : A.one = true := by rw [hA]; simp
  have hA2 : A.fit = true := by rw [hA]; simp
  have hA3 : A.cells = [A] := by rw [hA]; simp
  have hA4 : ∀ h, lenA Try.prog h 30 A = some (.int .i64 (l.length : Int)) := fun h => by
    rw [hA]; unfold arcsL
    split
    · next e => subst e; simp
    · simp [arcsA]
  obtain ⟨r, hr⟩ : ∃ r, r = apartR l s T ws := ⟨_, rfl⟩
  rw [← hr]
  have v1 := hV.one
  have v2 := hV.fit
  have v3 := hV.cells
  have v4 := hV.len
  unfold netV at ck ⊢
  rw [← hA] at ck ⊢
  simp [hA1, hA2, hA3, v1, v2, v3]
  intro b4 hb4
  simp [hA1, hA2, hA3, v1, v2, v3]
  refine ck.use ?_
  simp
  refine ce.use ?_
  simp [hA4, -lenA]
  have hrep : List.replicate l.length (AV.bool false) = barr l.length fun _ => false := by
    refine List.ext_getElem (by simp) fun i h1 h2 => by simp [barr]
  rw [hrep]
  refine ⟨by omega, ?_⟩
  intro bu hbu
  simp at hbu
  simp [hbu, v4, -lenA]
  refine awp_loop_g (γ := RX) (fun q t h => (q.i ≤ ws.length) ∧ (runR l s T (fun _ => false) ws = runR l s T q.U (ws.drop q.i)) ∧ t 1 = .int .i64 s ∧ t 2 = .int .i64 T ∧ t 3 = V ∧ t 4 = .ptr b4 0 ∧ t 9 = .osl bu 0 l.length 1 ∧ t 31 = V ∧ t 32 = .int .i64 ws.length ∧ t 33 = .int .i64 q.i ∧ h = (AHeap.empty.upd b4 (.cells [.int .i64 P, A])).upd bu (.cells (barr l.length q.U))) (fun q => ws.length - q.i) (⟨0, fun _ => false⟩) (turnA_self (by simp [hbu])) ?_
  rintro q t hx ⟨hi, hR, h1, h2, h3, h4, h9, h31, h32, h33, ex⟩
  rw [ex]
  clear ex
  obtain ⟨i, U⟩ := q
  simp only at h1 h2 h3 h4 h9 h31 h32 h33 hi hR
  by_cases hlt : i < ws.length
  · have hltI : (i : Int) < (ws.length : Int) := by omega
    have hwi : IntKind.i64.wrap ((i : Int) + 1) = (i : Int) + 1 := wrap_i64 (by omega) (by omega)
    obtain ⟨w, hw⟩ : ∃ w, w = ws[i] := ⟨_, rfl⟩
    obtain ⟨a0, hrow, hai⟩ := hV.row i hlt
    have hwb : w.length ≤ 18000000000000 := hrl w (hw ▸ List.getElem_mem hlt)
    rw [List.drop_eq_getElem_cons hlt, ← hw, runR_step] at hR
    rw [← hw] at hai
    have hVs := hV.sl i hlt
    have hir : i < rows.length := by have := congrArg List.length hrow; simp at this; omega
    have g1 := hai.one
    have g2 := hai.fit
    have g3 := hai.cells
    have g4 := hai.len
    have hfalse : wayR l U s [s] w = none → r = false := fun h => by
      rw [h] at hR
      rw [hr, apartR, hR]; rfl
    simp [h1, h2, h3, h4, h9, h31, h32, h33, v4, hltI, hlt, hVs, hrow, hir, g1, g2, g3, g4, -lenA]
    intro bs hbs
    simp [hbu] at hbs
    simp [h1, h2, h3, h4, h9, h31, h32, h33, hbs, g4, -lenA, mapSet]
    rw [hVs] at v1 v2 v3 v4
    refine awp_loop_g (γ := RY) (fun y t h => (y.k ≤ w.length) ∧ (wayR l U s [s] w = wayR l y.U y.e y.seen (w.drop y.k)) ∧ (y.seen.length = y.k + 1 ∧ y.seen.Nodup ∧ ∀ z ∈ y.seen, z < P) ∧ (¬ y.b = b4 ∧ ¬ y.b = bu) ∧ t 1 = .int .i64 s ∧ t 2 = .int .i64 T ∧ t 3 = .sl ws.length rows ∧ t 4 = .ptr b4 0 ∧ t 9 = .osl bu 0 l.length 1 ∧ t 31 = .sl ws.length rows ∧ t 32 = .int .i64 ws.length ∧ t 33 = .int .i64 i ∧ t 12 = .int .i64 y.e ∧ t 13 = .map y.b ∧ t 41 = a0 ∧ t 42 = .int .i64 w.length ∧ t 43 = .int .i64 y.k ∧ h = ((AHeap.empty.upd b4 (.cells [.int .i64 P, A])).upd bu (.cells (barr l.length y.U))).upd y.b (.map (.one (.i .i64)) (seenM y.seen))) (fun y => w.length - y.k) (⟨0, U, s, [s], bs⟩) (turnA_self (by simp [h1, h2, h3, h4, h9, h31, h32, h33, hbs, hVs, seenM, hs, mapSet])) ?_
    rintro y t hy ⟨hk, hW, hsn, hb, h1, h2, h3, h4, h9, h31, h32, h33, h12, h13, h41, h42, h43, ey⟩
    rw [ey]
    clear ey
    obtain ⟨k, U1, e, seen, b⟩ := y
    simp only at h1 h2 h3 h4 h9 h31 h32 h33 h12 h13 h41 h42 h43 hk hW hsn hb
    obtain ⟨n1, n2, n3⟩ := hsn
    obtain ⟨m1, m2⟩ := hb
    have m1' : ¬ b4 = b := fun q => m1 q.symm
    have m2' : ¬ bu = b := fun q => m2 q.symm
    have hs24 : seen.length ≤ P := nodup_lt' _ _ n2 n3
    by_cases hkt : k < w.length
    · have hktI : (k : Int) < (w.length : Int) := by omega
      have hwk : IntKind.i64.wrap ((k : Int) + 1) = (k : Int) + 1 := wrap_i64 (by omega) (by omega)
      obtain ⟨a, ha⟩ : ∃ a, a = w[k] := ⟨_, rfl⟩
      have has : a0 = .sl w.length (intC w) := hai.sl hkt
      rw [has] at g1 g2 g3 g4
      have hac : w[k]? = some a := by rw [ha]; exact List.getElem?_eq_getElem hkt
      rw [List.drop_eq_getElem_cons hkt, ← ha] at hW
      have hbad : badA l U1 e seen a → r = false := fun h => hfalse (by rw [hW, wayR, if_pos h])
      by_cases c1 : a < 0
      · obtain rfl := hbad (.inl c1)
        simp [h1, h2, h3, h4, h9, h31, h32, h33, h12, h13, h41, h42, h43, hktI, hkt, hlt, hltI, hrow, hir, g4, has, intC_at hac, c1]
        refine finA_drop ?_
        rfl
      obtain ⟨d, rfl⟩ : ∃ d : Nat, a = d := ⟨a.toNat, by omega⟩
      have d0 : ¬ (d : Int) < 0 := by omega
      by_cases c2 : d < l.length
      rotate_left
      · obtain rfl := hbad (.inr (.inl (by omega)))
        have c2I : (l.length : Int) ≤ (d : Int) := by omega
        simp [h1, h2, h3, h4, h9, h31, h32, h33, h12, h13, h41, h42, h43, hktI, hkt, hlt, hltI, hrow, hir, g4, has, intC_at hac, d0, c2, c2I, hA4, -lenA, m1, m2, m1', m2', hbu]
        refine finA_drop ?_
        rfl
      have c2I : ¬ (l.length : Int) ≤ (d : Int) := by omega
      have c2J : (d : Int) < (l.length : Int) := by omega
      have hne : ¬ l = [] := fun e => by rw [e] at c2; simp at c2
      have hAs : A = .sl l.length (arcC l) := by rw [hA]; unfold arcsL arcsA; rw [if_neg hne]
      by_cases c3 : U1 d = true
      · obtain rfl := hbad (.inr (.inr (.inl (by simpa using c3))))
        simp [h1, h2, h3, h4, h9, h31, h32, h33, h12, h13, h41, h42, h43, hktI, hkt, hlt, hltI, hrow, hir, g4, has, intC_at hac, d0, c2, c2I, c2J, hA4, -lenA, m1, m2, m1', m2', hbu, barr_dr c2, c3]
        refine finA_drop ?_
        rfl
      have c3f : U1 d = false := by simpa using c3
      have hati := arcC_at c2
      obtain ⟨x, hx⟩ : ∃ x, x = l[d] := ⟨_, rfl⟩
      rw [← hx] at hati
      have hxo := arcOk_iff.1 (O.ok x (hx ▸ List.getElem_mem c2))
      have hi3 : 3 ≤ l.length * 3 - d * 3 := by omega
      have hi4 : min 3 (l.length * 3 - d * 3) = 3 := by omega
      have hxa : arcAt l d = x := by rw [hx]; simp [arcAt, List.getD_eq_getElem?_getD, c2]
      obtain ⟨xa, hxa1⟩ : ∃ xa : Nat, x.a = xa := ⟨x.a.toNat, by omega⟩
      obtain ⟨xb, hxb1⟩ : ∃ xb : Nat, x.b = xb := ⟨x.b.toNat, by omega⟩
      have hxbP : xb < P := by omega
      have hfr : fromN l d = xa := by unfold fromN; rw [hxa, hxa1]; rfl
      have hto : toN l d = xb := by unfold toN; rw [hxa, hxb1]; rfl
      by_cases c4 : xa = e
      rotate_left
      · have c4I : ¬ (xa : Int) = (e : Int) := by omega
        obtain rfl := hbad (.inr (.inr (.inr (.inl (by simp only [Int.toNat_natCast]; rw [hfr]; exact c4)))))
        simp [h1, h2, h3, h4, h9, h31, h32, h33, h12, h13, h41, h42, h43, hktI, hkt, hlt, hltI, hrow, hir, g4, has, intC_at hac, d0, c2, c2I, c2J, hA4, -lenA, m1, m2, m1', m2', hbu, barr_dr c2, c3f]
        simp [h1, h2, h3, h4, h9, h31, h32, h33, h12, h13, h41, h42, h43, hAs, hati, hi3, hi4, c2, c2J, c2I, d0, c3f, hxa1, hxb1, c4I, c4, m1, m2, m1', m2', hbu, barr_dr c2]
        refine finA_drop ?_
        rfl
      have c4I : (xa : Int) = (e : Int) := by omega
      have hget := seenM_get xb seen
      by_cases c5 : xb ∈ seen
      · obtain rfl := hbad (.inr (.inr (.inr (.inr (by simp only [Int.toNat_natCast]; rw [hto]; exact c5)))))
        rw [if_pos c5] at hget
        simp [h1, h2, h3, h4, h9, h31, h32, h33, h12, h13, h41, h42, h43, hktI, hkt, hlt, hltI, hrow, hir, g4, has, intC_at hac, d0, c2, c2I, c2J, hA4, -lenA, m1, m2, m1', m2', hbu, barr_dr c2, c3f]
        simp [h1, h2, h3, h4, h9, h31, h32, h33, h12, h13, h41, h42, h43, hAs, hati, hi3, hi4, c2, c2J, c2I, d0, c3f, hxa1, hxb1, c4I, c4, m1, m2, m1', m2', hbu, barr_dr c2, hget]
        refine finA_drop ?_
        rfl
      have hgood : ¬ badA l U1 e seen (d : Int) := by
        unfold badA
        simp only [Int.toNat_natCast]
        rw [hfr, hto]
        rintro (q | q | q | q | q)
        · exact c1 q
        · exact c2I q
        · exact c3 q
        · exact q c4
        · exact c5 q
      rw [wayR, if_neg hgood] at hW
      simp only [Int.toNat_natCast] at hW
      rw [hto] at hW
      rw [if_neg c5] at hget
      have hset := seenM_set c5
      simp [h1, h2, h3, h4, h9, h31, h32, h33, h12, h13, h41, h42, h43, hktI, hkt, hlt, hltI, hrow, hir, g4, has, intC_at hac, d0, c2, c2I, c2J, hA4, -lenA, m1, m2, m1', m2', hbu, barr_dr c2, c3f]
      simp [h1, h2, h3, h4, h9, h31, h32, h33, h12, h13, h41, h42, h43, hAs, hati, hi3, hi4, c2, c2J, c2I, d0, c3f, hxa1, hxb1, c4I, c4, m1, m2, m1', m2', hbu, barr_dr c2, hget, hset, splice_one, barr_set]
      refine ⟨by omega, ?_⟩
      rw [← hAs]
      refine turnA_self ⟨⟨k + 1, upf U1 d true, xb, seen ++ [xb], b⟩, by simp only; omega, by simp only; omega, hW, ?_, ⟨m1, m2⟩, by simp [h1, h2, h3, h4, h9, h31, h32, h33, h12, h13, h41, h42, h43, hwk, hAs, has]⟩
      refine ⟨by simp [n1], ?_, fun z hz => ?_⟩
      · rw [List.nodup_append]
        exact ⟨n2, by simp, fun a ha b hb => by simp at hb; subst hb; rintro rfl; exact c5 ha⟩
      · rcases List.mem_append.1 hz with q | q
        · exact n3 z q
        · simp at q; omega
    · obtain rfl : k = w.length := by omega
      rw [List.drop_length] at hW
      rw [hW] at hR
      simp only [wayR] at hR
      by_cases c : e = T
      · subst c
        rw [if_pos rfl] at hR
        simp [h1, h2, h3, h4, h9, h31, h32, h33, h12, h13, h41, h42, h43, hlt, hltI, hrow, hir, g4, -lenA, m1, m2, m1', m2', hbu]
        refine turnA_to ((AHeap.empty.upd b4 (.cells [.int .i64 P, A])).upd bu (.cells (barr l.length U1))) (Drop.new (Drop.refl _) (by simp [m1, m2, m1', m2'])) ⟨⟨i + 1, U1⟩, by simp only; omega, by simp only; omega, hR, by simp [h1, h2, h3, h4, h9, h31, h32, h33, h12, h13, h41, h42, h43, hwi, hVs]⟩
      · have cI : ¬ (e : Int) = (T : Int) := by omega
        rw [if_neg c] at hR
        obtain rfl : r = false := by rw [hr, apartR, hR]; rfl
        simp [h1, h2, h3, h4, h9, h31, h32, h33, h12, h13, h41, h42, h43, hlt, hltI, hrow, hir, g4, -lenA, m1, m2, m1', m2', hbu, cI, c]
        refine finA_drop ?_
        rfl
  · obtain rfl : i = ws.length := by omega
    rw [List.drop_length] at hR
    obtain rfl : r = true := by rw [hr, apartR, hR]; rfl
    simp [h1, h2, h3, h4, h9, h31, h32, h33, v4, -lenA]
    refine finA_drop ?_
    rfl
end Go.Proofs

end

section
/-
  Flow: whether the reference reaches a place without some arcs.
-/
namespace Go.Proofs
open Go Go.AH
set_option maxRecDepth 10000
set_option maxHeartbeats 4000000

structure RK where
  k : Nat
  L : List Nat
  b : Nat
theorem l_Reaches (P : Nat) (l : List RArc) (O : ArcsOk P l fun _ => 0) (s T : Nat) (hs : s < P) (out : List Nat) (hol : out.length ≤ 1000000) (In : Nat → Bool) (hIs : In s = true) (hIt : In T = false)
    (hcl : ∀ k, k < l.length → In (fromN l k) = true → k ∉ out → In (toN l k) = true) :
    Pure Try.prog 31 [netV P l, .int .i64 s, .int .i64 T, natL out] (.bool false) := by
  refine pure_of (acalls_of Try.func31 rfl Try.call31 (by kernel_rfl) (by show _ ≤ (67 : Nat); simp) ?_)
  have l200 := O.len
  have P24 := O.P24
  obtain ⟨A, hA⟩ : ∃ A, A = arcsL l := ⟨_, rfl⟩
  have hA1 : A.one = true := by rw [hA]; simp
  have hA2 : A.fit = true := by rw [hA]; simp
  have hA3 : A.cells = [A] := by rw [hA]; simp
  have hA4 : ∀ h, lenA Try.prog h 22 A = some (.int .i64 (l.length : Int)) := fun h => by
    rw [hA]; unfold arcsL
    split
    · next e => subst e; simp
    · simp [arcsA]
  have hHas1 := fun x : Nat => l_Has (out.map fun x : Nat => (x : Int)) (by simpa using hol) x
  simp only [contains_nat, ← natL_int] at hHas1
  obtain ⟨Wo, hWo⟩ : ∃ Wo, Wo = natL out := ⟨_, rfl⟩
  rw [← hWo]
  simp only [← hWo] at hHas1
  have hW1 : Wo.one = true := by rw [hWo]; simp
  have hW2 : Wo.fit = true := by rw [hWo]; simp
  have hW3 : Wo.cells = [Wo] := by rw [hWo]; simp
  unfold netV
  rw [← hA]
  simp [hA1, hA2, hA3, hW1, hW2, hW3]
  intro b4 hb4
  simp [hA1, hA2, hA3, hW1, hW2, hW3]
  intro b0 hb0
  simp at hb0
  simp [hb0]
  refine awp_loop_g (γ := RK) (fun q t h => (q.k ≤ q.L.length) ∧ (q.L.Nodup ∧ (∀ z ∈ q.L, z < P ∧ In z = true) ∧ q.L ≠ []) ∧ (¬ q.b = b4) ∧ t 2 = .int .i64 T ∧ t 3 = Wo ∧ t 4 = .ptr b4 0 ∧ t 9 = .osl q.b 0 q.L.length 1 ∧ t 10 = .int .i64 q.k ∧ h = (AHeap.empty.upd b4 (.cells [.int .i64 P, A])).upd q.b (.cells (natC q.L))) (fun q => P - q.k) (⟨0, [s], b0⟩) (turnA_self (by simp [hb0, natC, hIs, hs])) ?_
  rintro q t hx ⟨hk, hL, hb, h2, h3, h4, h9, h10, ex⟩
  rw [ex]
  clear ex
  obtain ⟨k, L, b⟩ := q
  simp only at h2 h3 h4 h9 h10 hk hL hb
  obtain ⟨n1, n2, n3⟩ := hL
  have hb' : ¬ b4 = b := fun q => hb q.symm
  have hLP : L.length ≤ P := nodup_lt' _ _ n1 fun z hz => (n2 z hz).1
  by_cases hlt : k < L.length
  · have hltI : (k : Int) < (L.length : Int) := by omega
    obtain ⟨y, hy⟩ : ∃ y, y = L[k] := ⟨_, rfl⟩
    have hy' : L[k]? = some y := by rw [hy]; exact List.getElem?_eq_getElem hlt
    have hyI : In y = true := (n2 y (hy ▸ List.getElem_mem hlt)).2
    have hwk : IntKind.i64.wrap ((k : Int) + 1) = (k : Int) + 1 := wrap_i64 (by omega) (by omega)
    simp [h2, h3, h4, h9, h10, hlt, hltI]
    refine awp_loop_g (γ := RK) (fun q t h => (q.k ≤ l.length) ∧ (q.L.Nodup ∧ (∀ z ∈ q.L, z < P ∧ In z = true) ∧ q.L ≠ []) ∧ (q.L[k]? = some y) ∧ (¬ q.b = b4) ∧ t 2 = .int .i64 T ∧ t 3 = Wo ∧ t 4 = .ptr b4 0 ∧ t 9 = .osl q.b 0 q.L.length 1 ∧ t 10 = .int .i64 k ∧ t 11 = .int .i64 q.k ∧ h = (AHeap.empty.upd b4 (.cells [.int .i64 P, A])).upd q.b (.cells (natC q.L))) (fun q => l.length - q.k) (⟨0, L, b⟩) (turnA_self (by simp [h2, h3, h4, h9, h10, n1, n2, n3, hb, hlt, hy']; exact ⟨n2, hy.symm⟩)) ?_
    rintro q t hz ⟨hi, hL2, hLk, hb2, h2, h3, h4, h9, h10, h11, ez⟩
    rw [ez]
    clear ez
    obtain ⟨i, L2, b2⟩ := q
    simp only at h2 h3 h4 h9 h10 h11 hi hL2 hLk hb2
    obtain ⟨m1, m2, m3⟩ := hL2
    have hb2' : ¬ b4 = b2 := fun q => hb2 q.symm
    have hLP2 : L2.length ≤ P := nodup_lt' _ _ m1 fun z hz => (m2 z hz).1
    have hk2 : k < L2.length := (List.getElem?_eq_some_iff.1 hLk).1
    by_cases hit : i < l.length
    · have hitI : (i : Int) < (l.length : Int) := by omega
      have hwi : IntKind.i64.wrap ((i : Int) + 1) = (i : Int) + 1 := wrap_i64 (by omega) (by omega)
      have hne : ¬ l = [] := fun e => by rw [e] at hit; simp at hit
      have hAs : A = .sl l.length (arcC l) := by rw [hA]; unfold arcsL arcsA; rw [if_neg hne]
      have hati := arcC_at hit
      obtain ⟨x, hx⟩ : ∃ x, x = l[i] := ⟨_, rfl⟩
      rw [← hx] at hati
      have hxo := arcOk_iff.1 (O.ok x (hx ▸ List.getElem_mem hit))
      have hi3 : 3 ≤ l.length * 3 - i * 3 := by omega
      have hi4 : min 3 (l.length * 3 - i * 3) = 3 := by omega
      have hxa : arcAt l i = x := by rw [hx]; simp [arcAt, List.getD_eq_getElem?_getD, hit]
      obtain ⟨xa, hxa1⟩ : ∃ xa : Nat, x.a = xa := ⟨x.a.toNat, by omega⟩
      obtain ⟨xb, hxb1⟩ : ∃ xb : Nat, x.b = xb := ⟨x.b.toNat, by omega⟩
      have hxbP : xb < P := by omega
      have hfr : fromN l i = xa := by unfold fromN; rw [hxa, hxa1]; rfl
      have hto : toN l i = xb := by unfold toN; rw [hxa, hxb1]; rfl
      have hk2I : (k : Int) < (L2.length : Int) := by omega
      rw [hAs] at hA1 hA2 hA3 hA4 ⊢
      simp [h2, h3, h4, h9, h10, h11, hA4, -lenA, hit, hitI, hb2, hb2']
      refine awp_draw_text (by kernel_rfl) [] [] (by kernel_rfl) (by kernel_rfl) (by simp) ?_
      by_cases c1 : xa = y
      rotate_left
      · have c1I : ¬ (xa : Int) = (y : Int) := by omega
        simp [h2, h3, h4, h9, h10, h11, hA4, -lenA, hit, hitI, hb2, hb2', hati, hi3, hi4, natC_at hLk, hk2, hk2I, hxa1, c1, c1I]
        refine turnA_self ⟨⟨i + 1, L2, b2⟩, by simp only; omega, by simp only; omega, ⟨m1, m2, m3⟩, hLk, hb2, by simp [h2, h3, h4, h9, h10, h11, hwi]⟩
      have c1I : (xa : Int) = (y : Int) := by omega
      simp [h2, h3, h4, h9, h10, h11, hA4, -lenA, hit, hitI, hb2, hb2', hati, hi3, hi4, natC_at hLk, hk2, hk2I, hxa1, c1, c1I]
      refine (hHas1 i).use ?_
      by_cases c2 : i ∈ out
      · simp [h2, h3, h4, h9, h10, h11, c2]
        refine turnA_self ⟨⟨i + 1, L2, b2⟩, by simp only; omega, by simp only; omega, ⟨m1, m2, m3⟩, hLk, hb2, by simp [h2, h3, h4, h9, h10, h11, hwi]⟩
      simp [h2, h3, h4, h9, h10, h11, c2, hA4, -lenA, hit, hitI, hb2, hb2', hati, hi3, hi4, hxb1]
      refine ACalls.mono (l_HasO L2 m3 (by omega) xb b2 _ (by simp)) ?_
      rintro _ _ ⟨rfl, rfl⟩
      by_cases c3 : xb ∈ L2
      · simp [h2, h3, h4, h9, h10, h11, c3]
        refine turnA_self ⟨⟨i + 1, L2, b2⟩, by simp only; omega, by simp only; omega, ⟨m1, m2, m3⟩, hLk, hb2, by simp [h2, h3, h4, h9, h10, h11, hwi]⟩
      have hIb : In xb = true := by
        have := hcl i hit (by rw [hfr, c1]; exact hyI) c2
        rwa [hto] at this
      simp [h2, h3, h4, h9, h10, h11, c3, hA4, -lenA, hit, hitI, hb2, hb2', hati, hi3, hi4, hxb1]
      intro b5 hb5
      simp [hb2, hb2'] at hb5
      simp [h2, h3, h4, h9, h10, h11, hb5, hb2, hb2']
      refine ⟨by omega, fun b6 hb6 => ?_⟩
      simp [hb5, hb2, hb2'] at hb6
      have hns : natC L2 ++ [.int .i64 (xb : Int)] = natC (L2 ++ [xb]) := by simp [natC]
      simp [h2, h3, h4, h9, h10, h11, hb5, hns]
      refine turnA_to ((AHeap.empty.upd b4 (.cells [.int .i64 P, .sl l.length (arcC l)])).upd b6 (.cells (natC (L2 ++ [xb])))) (Drop.both (Drop.new (Drop.refl _) (by simp [hb5]))) ⟨⟨i + 1, L2 ++ [xb], b6⟩, by simp only; omega, by simp only; omega, ⟨?_, ?_, by simp⟩, ?_, by simp [hb6], by simp [h2, h3, h4, h9, h10, h11, hwi]⟩
      · rw [List.nodup_append]
        exact ⟨m1, by simp, fun a ha b hb => by simp at hb; subst hb; rintro rfl; exact c3 ha⟩
      · intro z hz
        rcases List.mem_append.1 hz with q | q
        · exact m2 z q
        · simp at q; subst q; exact ⟨hxbP, hIb⟩
      · simp only
        rw [List.getElem?_append_left hk2]; exact hLk
    · obtain rfl : i = l.length := by omega
      simp [h2, h3, h4, h9, h10, h11, hA4, -lenA, hb2, hb2']
      refine turnA_self ⟨⟨k + 1, L2, b2⟩, by simp only; omega, by simp only; omega, ⟨m1, m2, m3⟩, hb2, by simp [h2, h3, h4, h9, h10, h11, hwk]⟩
  · obtain rfl : k = L.length := by omega
    simp [h2, h3, h4, h9, h10]
    refine ACalls.mono (l_HasO L n3 (by omega) T b _ (by simp)) ?_
    rintro _ _ ⟨rfl, rfl⟩
    have hTL : T ∉ L := fun h => by have := (n2 T h).2; rw [hIt] at this; cases this
    simp [h2, h3, h4, h9, h10, hTL]
    refine finA_drop ?_
    rfl
end Go.Proofs

end
