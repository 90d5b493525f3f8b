/-
  Texts: PbA PbB PbC.
-/
import Derived.Test.YtkdhgablioljnaaPaAwk
import Derived.Test.YtkdhgablioljnaaP1
import Derived.Test.YtkdhgablioljnaaP3
set_option linter.unusedSimpArgs false
set_option linter.unusedVariables false
set_option linter.unusedSectionVars false
section
/-
  Pair: products of small numbers, by halves.
-/
namespace Go.Proofs
open Go Go.AH
set_option maxRecDepth 100000
set_option maxHeartbeats 4000000

section
variable {P : Program}
theorem xtwo_ok (hm : P.follows .mixedOrders = true) {L : List Nat} (hL : ∀ f ∈ L, ∀ (args : Array Value) (w : World), (callFunc f args).run P w = .ok (.enter f args) w) {n : Nat} {f : FuncId} {k j j' : IntKind} {a b c d : Int}
    (e : (match xcall P (L, []) (xrun P (L, []) n) (.fn (.func f) [] []) [.int k a, .int k b] xstart (fun r h => some (r, h)) with | some (.tup [.int i x, .int i' y], _) => i == j && (i' == j' && (x == c && y == d)) | _ => false) = true) : Pure P f [.int k a, .int k b] (.tup [.int j c, .int j' d]) := by
  split at e
  · next h hx =>
    have C := xcall_ok (xrun_ok (draw_ok hm) (L := (L, [])) (fun _ h => nomatch h) hL n n (Nat.le_refl n)) (L := (L, [])) (fun _ h => nomatch h) hL
    have c := C _ xstart AHeap.empty (.fn (.func f) [] []) [.int k a, .int k b] _ _ hx start_rep
    refine pure_of (ACalls.mono (show ACalls P f [.int k a, .int k b] AHeap.empty _ from c) ?_)
    rintro r H ⟨ρ', r', h', _, _, _, rfl, eK⟩
    simp only [Bool.and_eq_true, beq_iff_eq] at e
    obtain ⟨rfl, rfl, rfl, rfl⟩ := e
    simp only [Option.some.injEq, Prod.mk.injEq] at eK
    obtain ⟨rfl, rfl⟩ := eK
    simp [ren]
  · cases e
end
theorem mul_calls : ∀ f ∈ ([91, 95, 96] : List Nat), ∀ (args : Array Value) (w : World), (callFunc f args).run Try.prog w = .ok (.enter f args) w := by
  intro f hf
  simp only [List.mem_cons, List.not_mem_nil, or_false] at hf
  rcases hf with rfl | rfl | rfl
  · exact Try.call91
  · exact Try.call95
  · exact Try.call96
theorem w_Mul (n : Nat) (hn : n ≤ 12) : Pure Try.prog 91 [.int .u64 1, .int .u64 n] (.tup [.int .u64 0, .int .u64 n]) := by
  have : n = 0 ∨ n = 1 ∨ n = 2 ∨ n = 3 ∨ n = 4 ∨ n = 5 ∨ n = 6 ∨ n = 7 ∨ n = 8 ∨ n = 9 ∨ n = 10 ∨ n = 11 ∨ n = 12 := by omega
  rcases this with rfl | rfl | rfl | rfl | rfl | rfl | rfl | rfl | rfl | rfl | rfl | rfl | rfl <;> exact xtwo_ok (by kernel_rfl) mul_calls (n := 100) (by kernel_rfl)
end Go.Proofs

end

section
/-
  Pair: lists of one number again and again.
-/
namespace Go.Proofs
open Go Go.AH
set_option maxRecDepth 10000
set_option maxHeartbeats 4000000

theorem w_Repeat (x : Int) (n : Nat) (hn : 1 ≤ n ∧ n ≤ 12) (Hh : AHeap) (b : Nat) (hb : Hh b = some (.cells [.int .i64 x])) :
    ACalls Try.prog 83 [.osl b 0 1 1, .int .i64 n] Hh fun r h' => ∃ b', Fresh Hh b' ∧ r = .osl b' 0 n 1 ∧ h' = Hh.upd b' (.cells (intC (List.replicate n x))) := by
  refine acalls_of Try.func83 rfl Try.call83 (by kernel_rfl) (by show _ ≤ (48 : Nat); simp) ?_
  have hm := w_Mul n hn.2
  have c0 : ¬ (n : Int) < 0 := by omega
  have u1 : IntKind.u64.wrap 1 = 1 := wrap_u64 (by omega) (by omega)
  have u2 : IntKind.u64.wrap (n : Int) = n := wrap_u64 (by omega) (by omega)
  have u3 : IntKind.i64.wrap (n : Int) = n := wrap_i64 (by omega) (by omega)
  have c1 : ¬ (9223372036854775807 : Int) < (n : Int) := by omega
  have c2 : (n : Int) < 1073741824 := by omega
  have db : ∀ off, cellsAt Hh b off = some (([.int .i64 x] : List AV).drop off) := fun off => cellsAt_eq hb
  simp [c0, u1, u2]
  refine hm.use ?_
  simp [c1, u3, c2]
  intro b' hb'
  have nb := ne_fresh (db 0) hb'
  have hn0 : ¬ n = 0 := by omega
  have hm1 : min 1 n = 1 := by omega
  simp [db, nb, hm1]
  obtain ⟨cK, hcK⟩ : ∃ cK : Nat → List AV, cK = fun k => intC (List.replicate k x ++ List.replicate (n - k) 0) := ⟨_, rfl⟩
  have cl : ∀ k, k ≤ n → (cK k).length = n := fun k hk => by rw [hcK]; simp; omega
  have ct : ∀ k, k ≤ n → (cK k).take k = intC (List.replicate k x) := fun k hk => by rw [hcK]; simp [intC]
  have s1 : splice (List.replicate n (AV.int .i64 0)) 0 [.int .i64 x] = cK 1 := by
    rw [hcK]
    unfold splice
    simp [intC]
  have s2 : ∀ k j, k + j ≤ n → j ≤ k → splice (cK k) k (((cK k).take k).take j) = cK (k + j) := fun k j h1 h2 => by
    have e1 : (intC (List.replicate k x)).take j = intC (List.replicate j x) := by simp [intC, Nat.min_eq_left h2]
    rw [ct k (by omega), e1, hcK]
    unfold splice
    simp only [intC, List.map_append, List.map_replicate, List.length_replicate]
    rw [List.take_append_of_le_length (by simp), List.take_of_length_le (by simp), List.drop_append]
    rw [show List.drop (k + j) (List.replicate k (AV.int .i64 x)) = [] from List.drop_of_length_le (by simp), List.nil_append, List.length_replicate, List.drop_replicate, show k + j - k = j from by omega, show n - k - j = n - (k + j) from by omega, List.replicate_append_replicate]
  simp [s1]
  refine awp_loop_g (γ := Nat) (fun k t h => (1 ≤ k ∧ k ≤ n) ∧ t 7 = .osl b' 0 n 1 ∧ t 8 = .int .i64 k ∧ h = Hh.upd b' (.cells (cK k))) (fun k => n - k) (1) (turnA_self (by simp; omega)) ?_
  rintro k t hx ⟨hk, h7, h8, ex⟩
  rw [ex]
  clear ex
  by_cases hlt : k < n
  · have hltI : (k : Int) < (n : Int) := by omega
    have hj : k + min k (n - k) ≤ n := by omega
    have hwj : IntKind.i64.wrap ((k : Int) + (min k (n - k) : Nat)) = ((k + min k (n - k) : Nat) : Int) := by rw [wrap_i64 (by omega) (by omega)]; omega
    simp [h7, h8, hlt, hltI]
    refine awp_draw_text (by kernel_rfl) [] [] (by kernel_rfl) (by kernel_rfl) (by simp) ?_
    simp [h7, h8, hlt, hltI]
    have hcl := cl k hk.2
    refine ⟨fun _ => ⟨fun _ => ⟨fun _ => ⟨by omega, ?_⟩, by omega⟩, by omega⟩, by omega⟩
    obtain ⟨j, hj⟩ : ∃ j, j = min k (n - k) := ⟨_, rfl⟩
    have hjI : min (k : Int) ((n - k : Nat) : Int) = (j : Int) := by omega
    have hwj : IntKind.i64.wrap ((k : Int) + (j : Int)) = ((k + j : Nat) : Int) := by rw [wrap_i64 (by omega) (by omega)]; omega
    rw [hjI, ← hj, s2 k j (by omega) (by omega), hwj]
    exact turnA_self ⟨k + j, by omega, by omega, by simp [h7, h8]⟩
  · obtain rfl : k = n := by omega
    simp [h7, h8]
    have e : cK k = intC (List.replicate k x) := by rw [hcK]; simp
    exact finA_same _ (Drop.refl _) ⟨b', hb', rfl, by rw [e]⟩
theorem w_Repeat64 (x : Int) (n : Nat) (hn : 1 ≤ n ∧ n ≤ 12) (Hh : AHeap) (b : Nat) (hb : Hh b = some (.cells [.int .i64 x])) :
    ACalls Try.prog 85 [.osl b 0 1 1, .int .i64 n] Hh fun r h' => ∃ b', Fresh Hh b' ∧ r = .osl b' 0 n 1 ∧ h' = Hh.upd b' (.cells (intC (List.replicate n x))) := by
  refine acalls_of Try.func85 rfl Try.call85 (by kernel_rfl) (by show _ ≤ (48 : Nat); simp) ?_
  have hm := w_Mul n hn.2
  have c0 : ¬ (n : Int) < 0 := by omega
  have u1 : IntKind.u64.wrap 1 = 1 := wrap_u64 (by omega) (by omega)
  have u2 : IntKind.u64.wrap (n : Int) = n := wrap_u64 (by omega) (by omega)
  have u3 : IntKind.i64.wrap (n : Int) = n := wrap_i64 (by omega) (by omega)
  have c1 : ¬ (9223372036854775807 : Int) < (n : Int) := by omega
  have c2 : (n : Int) < 1073741824 := by omega
  have db : ∀ off, cellsAt Hh b off = some (([.int .i64 x] : List AV).drop off) := fun off => cellsAt_eq hb
  simp [c0, u1, u2]
  refine hm.use ?_
  simp [c1, u3, c2]
  intro b' hb'
  have nb := ne_fresh (db 0) hb'
  have hn0 : ¬ n = 0 := by omega
  have hm1 : min 1 n = 1 := by omega
  simp [db, nb, hm1]
  obtain ⟨cK, hcK⟩ : ∃ cK : Nat → List AV, cK = fun k => intC (List.replicate k x ++ List.replicate (n - k) 0) := ⟨_, rfl⟩
  have cl : ∀ k, k ≤ n → (cK k).length = n := fun k hk => by rw [hcK]; simp; omega
  have ct : ∀ k, k ≤ n → (cK k).take k = intC (List.replicate k x) := fun k hk => by rw [hcK]; simp [intC]
  have s1 : splice (List.replicate n (AV.int .i64 0)) 0 [.int .i64 x] = cK 1 := by
    rw [hcK]
    unfold splice
    simp [intC]
  have s2 : ∀ k j, k + j ≤ n → j ≤ k → splice (cK k) k (((cK k).take k).take j) = cK (k + j) := fun k j h1 h2 => by
    have e1 : (intC (List.replicate k x)).take j = intC (List.replicate j x) := by simp [intC, Nat.min_eq_left h2]
    rw [ct k (by omega), e1, hcK]
    unfold splice
    simp only [intC, List.map_append, List.map_replicate, List.length_replicate]
    rw [List.take_append_of_le_length (by simp), List.take_of_length_le (by simp), List.drop_append]
    rw [show List.drop (k + j) (List.replicate k (AV.int .i64 x)) = [] from List.drop_of_length_le (by simp), List.nil_append, List.length_replicate, List.drop_replicate, show k + j - k = j from by omega, show n - k - j = n - (k + j) from by omega, List.replicate_append_replicate]
  simp [s1]
  refine awp_loop_g (γ := Nat) (fun k t h => (1 ≤ k ∧ k ≤ n) ∧ t 7 = .osl b' 0 n 1 ∧ t 8 = .int .i64 k ∧ h = Hh.upd b' (.cells (cK k))) (fun k => n - k) (1) (turnA_self (by simp; omega)) ?_
  rintro k t hx ⟨hk, h7, h8, ex⟩
  rw [ex]
  clear ex
  by_cases hlt : k < n
  · have hltI : (k : Int) < (n : Int) := by omega
    have hj : k + min k (n - k) ≤ n := by omega
    have hwj : IntKind.i64.wrap ((k : Int) + (min k (n - k) : Nat)) = ((k + min k (n - k) : Nat) : Int) := by rw [wrap_i64 (by omega) (by omega)]; omega
    simp [h7, h8, hlt, hltI]
    refine awp_draw_text (by kernel_rfl) [] [] (by kernel_rfl) (by kernel_rfl) (by simp) ?_
    simp [h7, h8, hlt, hltI]
    have hcl := cl k hk.2
    refine ⟨fun _ => ⟨fun _ => ⟨fun _ => ⟨by omega, ?_⟩, by omega⟩, by omega⟩, by omega⟩
    obtain ⟨j, hj⟩ : ∃ j, j = min k (n - k) := ⟨_, rfl⟩
    have hjI : min (k : Int) ((n - k : Nat) : Int) = (j : Int) := by omega
    have hwj : IntKind.i64.wrap ((k : Int) + (j : Int)) = ((k + j : Nat) : Int) := by rw [wrap_i64 (by omega) (by omega)]; omega
    rw [hjI, ← hj, s2 k j (by omega) (by omega), hwj]
    exact turnA_self ⟨k + j, by omega, by omega, by simp [h7, h8]⟩
  · obtain rfl : k = n := by omega
    simp [h7, h8]
    have e : cK k = intC (List.replicate k x) := by rw [hcK]; simp
    exact finA_same _ (Drop.refl _) ⟨b', hb', rfl, by rw [e]⟩
end Go.Proofs

end

section
/-
  Pair: the greatest number of a row; the law's offers.
-/
namespace Go.Proofs
open Go Go.AH
set_option maxRecDepth 10000
set_option maxHeartbeats 4000000

def maxB : List Int → Int
  | [] => 0
  | x :: r => r.foldl (fun m y => if m < y then y else m) x
theorem maxB_snoc {l : List Int} {x : Int} (h : l ≠ []) : maxB (l ++ [x]) = if maxB l < x then x else maxB l := by
  cases l with
  | nil => exact absurd rfl h
  | cons y r =>
    show List.foldl _ _ (r ++ [x]) = _
    rw [List.foldl_append]; rfl
theorem w_Max (l : List Int) (hl : l.length ≤ 1000000) (hne : l ≠ []) : Pure Try.prog 84 [.sl l.length (intC l)] (.int .i64 (maxB l)) := by
  refine pure_of (acalls_of Try.func84 rfl Try.call84 (by kernel_rfl) (by show _ ≤ (25 : Nat); simp) ?_)
  have hpos : 0 < l.length := List.length_pos_iff.2 hne
  have hp1 : ¬ (l.length : Int) < 1 := by omega
  have hp0 : ¬ l.length = 0 := by omega
  obtain ⟨x, hx⟩ : ∃ x, l[0]? = some x := ⟨_, List.getElem?_eq_getElem hpos⟩
  have hat := intC_at hx
  simp only [List.drop_zero, Nat.zero_add] at hat
  obtain ⟨rest, hrest⟩ : ∃ rest, rest = (intC l).drop 1 := ⟨_, rfl⟩
  rw [← hrest] at hat
  have hm1 : maxB (l.take 1) = x := by
    cases l with
    | nil => exact absurd rfl hne
    | cons y r => simp at hx; simp [maxB, hx]
  obtain ⟨V, hV⟩ : ∃ V, V = AV.sl l.length (intC l) := ⟨_, rfl⟩
  have hV0 : V = .sl l.length (.int .i64 x :: rest) := by rw [hV, hat]
  rw [show AV.sl l.length (intC l) = V from hV.symm, hV0]
  simp [hp1, hp0, hpos, hne]
  refine awp_loop_g (γ := Nat) (fun k t h => (1 ≤ k ∧ k ≤ l.length) ∧ t 0 = .sl l.length (.int .i64 x :: rest) ∧ t 3 = .int .i64 (maxB (l.take k)) ∧ t 4 = .int .i64 k ∧ h = AHeap.empty) (fun k => l.length - k) (1) (turnA_self (by simp [hm1]; omega)) ?_
  rintro k t h ⟨hk, h0, h3, h4, rfl⟩
  rw [← hV0, hV] at h0
  by_cases hlt : k < l.length
  · have hltI : (k : Int) < (l.length : Int) := by omega
    have hwk : IntKind.i64.wrap ((k : Int) + 1) = (k : Int) + 1 := wrap_i64 (by omega) (by omega)
    obtain ⟨y, hy⟩ : ∃ y, l[k]? = some y := ⟨_, List.getElem?_eq_getElem hlt⟩
    have hay := intC_at hy
    have hms : maxB (l.take (k + 1)) = if maxB (l.take k) < y then y else maxB (l.take k) := by
      obtain ⟨hi, e⟩ := List.getElem?_eq_some_iff.1 hy
      rw [List.take_succ_eq_append_getElem hi, e]
      exact maxB_snoc (fun e => by
        have := congrArg List.length e
        rw [List.length_take, List.length_nil] at this
        omega)
    simp [h0, h3, h4, hlt, hltI, hay]
    exact turnA_self ⟨k + 1, by omega, by omega, by simp [h0, h3, h4, hwk, hms, hat]⟩
  · obtain rfl : k = l.length := by omega
    rw [List.take_length] at h3
    simp [h0, h3, h4]
    exact finA_drop rfl
/-- An offer of any numbers. -/
def offX (l : List (List Int)) (i k : Nat) : Int := match l[i]? with
  | some r => match r[k]? with
    | some x => x.tmod 1000001
    | none => 0
  | none => 0
def offRow (l : List (List Int)) (n i : Nat) : List Int := (List.range n).map fun k => offX l i k
def offE (l : List (List Int)) (n : Nat) : List (List Int) := (List.range n).map fun i => offRow l n i
theorem partsC_row {ps : List (List Int)} {i : Nat} {p : List Int} (e : ps[i]? = some p) : (partsC ps).drop i = .sl p.length (intC p) :: (partsC ps).drop (i + 1) := by
  obtain ⟨h, rfl⟩ := List.getElem?_eq_some_iff.1 e
  have h2 : i < (partsC ps).length := by simpa [partsC] using h
  rw [List.drop_eq_getElem_cons h2]
  simp [partsC]
theorem l_offer (l : List (List Int)) (most n : Nat) (hl : l.length ≤ 4611686018427387904) (hr : ∀ r ∈ l, r.length ≤ 4611686018427387904) (hm : most ≤ 12) (hn : n = max 1 (min l.length most)) :
    Pure Try.prog 20 [.sl l.length (partsC l), .int .i64 most] (.sl n (partsC (offE l n))) := by
  refine pure_of (acalls_of Try.func20 rfl Try.call20 (by kernel_rfl) (by show _ ≤ (56 : Nat); simp) ?_)
  have n1 : 1 ≤ n ∧ n ≤ 12 := by omega
  obtain ⟨q, hq⟩ : ∃ q, q = min l.length most := ⟨_, rfl⟩
  have hmin : (if most < l.length then (most : Int) else (l.length : Int)) = (q : Int) := by split <;> omega
  rw [← hq] at hn
  have hmax : (if 1 < (q : Int) then (q : Int) else 1) = (n : Int) := by split <;> omega
  clear hq
  simp [hmin, hmax]
  obtain ⟨off, hoff⟩ : ∃ off : Nat → List (List Int), off = fun i => (List.range i).map (offRow l n) := ⟨_, rfl⟩
  have off0 : off 0 = [] := by rw [hoff]; rfl
  have offl : ∀ i, (off i).length = i := fun i => by rw [hoff]; simp
  have offs : ∀ i, off (i + 1) = off i ++ [offRow l n i] := fun i => by rw [hoff]; simp [List.range_succ]
  have offn : off n = offE l n := by rw [hoff]; rfl
  refine awp_loop_g (γ := At) (fun z t h => (z.i ≤ n) ∧ (z.o = none ↔ z.i = 0) ∧ t 0 = .sl l.length (partsC l) ∧ t 4 = .nilsl ∧ t 5 = .int .i64 n ∧ t 6 = ownV z.o z.i 1 ∧ t 7 = .int .i64 z.i ∧ h = AHeap.empty.updO z.o (partsC (off z.i))) (fun z => n - z.i) (⟨0, none⟩) (turnA_self (by simp [off0, partsC])) ?_
  rintro z t hx ⟨hi, ho, h0, h4, h5, h6, h7, ex⟩
  obtain ⟨i, o⟩ := z
  simp only at h0 h4 h5 h6 h7 hi ho ex
  rw [ex]
  clear ex
  by_cases hlt : i < n
  rotate_left
  · have hin : i = n := by omega
    simp [h0, h4, h5, h6, h7, hin]
    cases o with
    | none => exact absurd (ho.1 rfl) (by omega)
    | some b =>
      refine finA_all 2 ?_
      rw [ownV_some, frz_osl (by simp)]
      have hpl : (partsC (off n)).length = n := by simp [partsC, offl]
      rw [hin] at *
      simp [hpl]
      rw [map_frozen partsC_frozen, List.take_of_length_le (by simp [hpl]), offn]
  have hltI : (i : Int) < (n : Int) := by omega
  have hwi : IntKind.i64.wrap ((i : Int) + 1) = (i : Int) + 1 := wrap_i64 (by omega) (by omega)
  obtain ⟨row, hrow⟩ : ∃ row : Nat → List Int, row = fun k => (List.range k).map fun k => offX l i k := ⟨_, rfl⟩
  have row0 : row 0 = [] := by rw [hrow]; rfl
  have rowl : ∀ k, (row k).length = k := fun k => by rw [hrow]; simp
  have rows : ∀ k, row (k + 1) = row k ++ [offX l i k] := fun k => by rw [hrow]; simp [List.range_succ]
  have rown : row n = offRow l n i := by rw [hrow]; rfl
  obtain ⟨HH, hHH⟩ : ∃ HH, HH = AHeap.empty.updO o (partsC (off i)) := ⟨_, rfl⟩
  rw [← hHH]
  simp [h0, h4, h5, h6, h7, hlt, hltI]
  refine awp_loop_g (γ := At) (fun y t h => (y.i ≤ n) ∧ ((y.o = none ↔ y.i = 0) ∧ FreshO HH y.o) ∧ t 0 = .sl l.length (partsC l) ∧ t 4 = .nilsl ∧ t 5 = .int .i64 n ∧ t 6 = ownV o i 1 ∧ t 7 = .int .i64 i ∧ t 8 = ownV y.o y.i 1 ∧ t 9 = .int .i64 y.i ∧ h = HH.updO y.o (intC (row y.i))) (fun y => n - y.i) (⟨0, none⟩) (turnA_self (by simp [h0, h4, h5, h6, h7, row0, intC])) ?_
  rintro y t hy ⟨hk, hv, h0, h4, h5, h6, h7, h8, h9, ey⟩
  obtain ⟨k, p⟩ := y
  simp only at h0 h4 h5 h6 h7 h8 h9 hk hv ey
  rw [ey]
  clear ey
  obtain ⟨hv1, hv2⟩ := hv
  by_cases hkn : k < n
  · have hknI : (k : Int) < (n : Int) := by omega
    have hwk : IntKind.i64.wrap ((k : Int) + 1) = (k : Int) + 1 := wrap_i64 (by omega) (by omega)
    obtain ⟨x, hx⟩ : ∃ x, x = offX l i k := ⟨_, rfl⟩
    have hrs := rows k
    rw [← hx] at hrs
    by_cases c1 : i < l.length
    · have c1I : (i : Int) < (l.length : Int) := by omega
      obtain ⟨r, hri⟩ : ∃ r, l[i]? = some r := ⟨_, List.getElem?_eq_getElem c1⟩
      have hat := partsC_row hri
      have hpl : (partsC l).length = l.length := by simp [partsC]
      have hrl := hr r (List.mem_of_getElem? hri)
      by_cases c2 : k < r.length
      · have c2I : (k : Int) < (r.length : Int) := by omega
        obtain ⟨y, hy⟩ : ∃ y, r[k]? = some y := ⟨_, List.getElem?_eq_getElem c2⟩
        have hay := intC_at hy
        have hxe : y.tmod 1000001 = x := by rw [hx, offX, hri]; simp only; rw [hy]
        have hwx : IntKind.i64.wrap x = x := by
          have h1 := Int.tmod_lt_of_pos y (show (0 : Int) < 1000001 by omega)
          have h2 := Int.lt_tmod_of_pos y (show (0 : Int) < 1000001 by omega)
          rw [hxe] at h1 h2
          exact wrap_i64 (by omega) (by omega)
        simp [h0, h4, h5, h6, h7, h8, h9, hkn, hknI, c1, c1I, hat, hpl, c2, c2I, hay, hxe, hwx]
        intro bn hbn
        simp at hbn
        simp [h0, h4, h5, h6, h7, h8, h9, hbn]
        refine appendA_updO (by omega) (by omega) (fun e => by rw [hv1.1 e, row0]; rfl) (by simp [rowl]) (by simp) (by simp [hv2, hbn]) fun b' hb' => ?_
        simp at hb'
        have hts : intC (row k) ++ [.int .i64 x] = intC (row (k + 1)) := by rw [hrs]; simp [intC]
        rw [hts]
        simp [h0, h4, h5, h6, h7, h8, h9, hb', hbn]
        refine turnA_to (HH.updO (some b') (intC (row (k + 1)))) ?_ ⟨⟨k + 1, some b'⟩, by simp only; omega, by simp only; omega, by simp [hb'], by simp [h0, h4, h5, h6, h7, h8, h9, hwk]⟩
        simp
        exact Drop.both (Drop.new (Drop.refl _) (by simp [hbn]))
      · have c2I : ¬ (k : Int) < (r.length : Int) := by omega
        have hx0 : x = 0 := by rw [hx, offX, hri]; simp only; rw [List.getElem?_eq_none (by omega)]
        simp [h0, h4, h5, h6, h7, h8, h9, hkn, hknI, c1, c1I, hat, hpl, c2, c2I]
        rw [← hx0]
        intro bn hbn
        simp at hbn
        simp [h0, h4, h5, h6, h7, h8, h9, hbn]
        refine appendA_updO (by omega) (by omega) (fun e => by rw [hv1.1 e, row0]; rfl) (by simp [rowl]) (by simp) (by simp [hv2, hbn]) fun b' hb' => ?_
        simp at hb'
        have hts : intC (row k) ++ [.int .i64 x] = intC (row (k + 1)) := by rw [hrs]; simp [intC]
        rw [hts]
        simp [h0, h4, h5, h6, h7, h8, h9, hb', hbn]
        refine turnA_to (HH.updO (some b') (intC (row (k + 1)))) ?_ ⟨⟨k + 1, some b'⟩, by simp only; omega, by simp only; omega, by simp [hb'], by simp [h0, h4, h5, h6, h7, h8, h9, hwk]⟩
        simp
        exact Drop.both (Drop.new (Drop.refl _) (by simp [hbn]))
    · have c1I : ¬ (i : Int) < (l.length : Int) := by omega
      have hx0 : x = 0 := by rw [hx, offX, List.getElem?_eq_none (by omega)]
      simp [h0, h4, h5, h6, h7, h8, h9, hkn, hknI, c1, c1I]
      rw [← hx0]
      intro bn hbn
      simp at hbn
      simp [h0, h4, h5, h6, h7, h8, h9, hbn]
      refine appendA_updO (by omega) (by omega) (fun e => by rw [hv1.1 e, row0]; rfl) (by simp [rowl]) (by simp) (by simp [hv2, hbn]) fun b' hb' => ?_
      simp at hb'
      have hts : intC (row k) ++ [.int .i64 x] = intC (row (k + 1)) := by rw [hrs]; simp [intC]
      rw [hts]
      simp [h0, h4, h5, h6, h7, h8, h9, hb', hbn]
      refine turnA_to (HH.updO (some b') (intC (row (k + 1)))) ?_ ⟨⟨k + 1, some b'⟩, by simp only; omega, by simp only; omega, by simp [hb'], by simp [h0, h4, h5, h6, h7, h8, h9, hwk]⟩
      simp
      exact Drop.both (Drop.new (Drop.refl _) (by simp [hbn]))
  have hkE : k = n := by omega
  subst hkE
  cases p with
  | none => exact absurd (hv1.1 rfl) (by omega)
  | some br =>
    have hbr : Fresh HH br := hv2
    rw [hHH] at hbr ⊢
    simp at hbr
    have hor : ¬ o = some br := hbr
    simp [h0, h4, h5, h6, h7, h8, h9, hor]
    rw [rown]
    intro b53 hb53
    simp at hb53
    simp [h0, h4, h5, h6, h7, h8, h9, hb53, hor]
    refine appendA_updO (es := 1) (n := i) (k := 1) Nat.zero_lt_one (by omega) (fun e => by have := ho.1 e; subst this; rw [off0]; rfl) (by simp [partsC, offl]) Nat.zero_lt_one ?_ fun bp hbp => ?_
    · refine freshO_of fun x e => ?_
      have e2 : ¬ br = x := fun q => hor (q ▸ e)
      have e4 : ¬ b53 = x := fun q => hb53.1 (q ▸ e)
      simp [e2, e4, Ne.symm e2, Ne.symm e4]
    simp [hb53] at hbp
    simp [h0, h4, h5, h6, h7, h8, h9, hbp, hb53]
    refine ⟨2, AHeap.empty.upd bp (.cells (partsC (off (i + 1)))), _, ?_, fun i => .inl rfl, ⟨⟨i + 1, some bp⟩, by simp only; omega, by simp only; omega, by simp, ?_⟩⟩
    · intro y
      by_cases yp : y = bp
      · subst yp
        refine .inr (.inr ⟨_, AHeap.upd_same, ?_⟩)
        rw [AHeap.upd_same]
        simp only [List.map_append, List.map_cons, List.map_nil]
        rw [map_frozen partsC_frozen, frz_osl (by simp [Fresh, hbp]), cellsAt_eq (cs := intC (offRow l k i)) (by simp [AHeap.upd, hbp, hb53])]
        rw [offs]
        simp [partsC, offRow]
        rw [map_frozen intC_frozen]
        exact (List.take_of_length_le (by simp)).symm
      · rw [AHeap.upd_ne yp]
        exact .inl rfl
    · simp [h0, h4, h5, h6, h7, h8, h9, hwi]
end Go.Proofs

end
