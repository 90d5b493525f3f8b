/-
  Pair: the law on pairings and barriers.
-/
import Derived.Test.YtkdhgablioljnaaPaO
import Derived.Test.YtkdhgablioljnaaPaE
import Derived.Test.YtkdhgablioljnaaPaAwk
set_option linter.unusedSimpArgs false
set_option linter.unusedVariables false
set_option linter.unusedSectionVars false
namespace Go.Proofs
open Go Go.AH
set_option maxRecDepth 10000
set_option maxHeartbeats 4000000

theorem condA_cut {P : Program} {ro : Option Nat} {N : Nat} {v : AV} {x y : Code} {K : AF → AHeap → Prop} {Q : Exit → AF → AHeap → Prop} {t : AF} {h : AHeap} (I : AF → AHeap → Prop) (hx : condA v (awp P ro N x (thenA I Q) t h) (awp P ro N y (thenA I Q) t h)) (hy : ∀ t h, I t h → K t h) :
    condA v (awp P ro N x (thenA K Q) t h) (awp P ro N y (thenA K Q) t h) := by
  have m : ∀ c t h, awp P ro N c (thenA I Q) t h → awp P ro N c (thenA K Q) t h := fun c t h => awp_mono c _ _ t h fun e t h q => by cases e <;> first | exact q | exact hy _ _ q
  unfold condA at hx ⊢
  split at hx
  · exact ⟨fun b => m _ _ _ (hx.1 b), fun b => m _ _ _ (hx.2 b)⟩
  · exact hx.elim
theorem loop_cut {P : Program} {ro : Option Nat} {N id : Nat} {c : Code} {K : AF → AHeap → Prop} {Q : Exit → AF → AHeap → Prop} {t : AF} {h : AHeap} (I : AF → AHeap → Prop) (hx : awpLoop (awp P ro N c) (blockA id (thenA I Q)) t h) (hy : ∀ t h, I t h → K t h) :
    awpLoop (awp P ro N c) (blockA id (thenA K Q)) t h := by
  refine awp_mono (P := P) (ro := ro) (N := N) (.loop c) (blockA id (thenA I Q)) (blockA id (thenA K Q)) t h (fun e t h q => ?_) hx
  have m : ∀ e t h, thenA I Q e t h → thenA K Q e t h := fun e t h q => by cases e <;> first | exact q | exact hy _ _ q
  cases e with
  | exit i =>
    unfold blockA at q ⊢
    simp only at q ⊢
    split
    · next he => rw [if_pos he] at q; exact m _ _ _ q
    · next he => rw [if_neg he] at q; exact q
  | normal => exact m .normal t h q
  | goto l => exact q
  | ret => exact q
  | panic ch => exact q
  | outgrown => exact q
theorem w_HasS (l : List Int) (hl : l.length ≤ 4611686018427387904) (y : Int) : Pure Try.prog 29 [intS l, .int .i64 y] (.bool (l.contains y)) := by
  refine pure_of (acalls_of Try.func29 rfl Try.call29 (by kernel_rfl) (by show _ ≤ (18 : Nat); simp) ?_)
  obtain ⟨cb, hcb⟩ : ∃ cb, cb = l.contains y := ⟨_, rfl⟩
  rw [← hcb]
  simp [-lenA]
  refine awp_loop_g (γ := Nat) (fun k t h => (k ≤ l.length) ∧ (y ∉ l.take k) ∧ t 0 = intS l ∧ t 1 = .int .i64 y ∧ t 5 = .int .i64 k ∧ h = AHeap.empty) (fun k => l.length - k) (0) (turnA_self (by simp)) ?_
  rintro k t h ⟨hk, hno, h0, h1, h5, rfl⟩
  by_cases hlt : k < l.length
  · have hw : IntKind.i64.wrap ((k : Int) + 1) = (k : Int) + 1 := wrap_i64 (by omega) (by omega)
    have hV : intS l = .sl l.length (intC l) := rfl
    obtain ⟨x, hx⟩ : ∃ x, l[k]? = some x := ⟨_, List.getElem?_eq_getElem hlt⟩
    have hat := intC_at hx
    simp [h0, h1, h5, hlt, hV, hat]
    by_cases c : x = y
    · simp [h0, h1, h5, c]
      refine finA_drop ?_
      rw [hcb]
      have : y ∈ l := c ▸ List.mem_of_getElem? hx
      simp [this]
    · simp [h0, h1, h5, c]
      refine turnA_self ⟨k + 1, by omega, by omega, ?_, by simp [h0, h1, h5, hw, hV]⟩
      have hx2 : l[k] = x := by have := List.getElem?_eq_getElem hlt; rw [hx] at this; exact (Option.some.inj this).symm
      rw [List.take_succ_eq_append_getElem hlt, hx2]
      intro h
      rcases List.mem_append.1 h with h | h
      · exact hno h
      · simp at h; exact c h.symm
  · obtain rfl : k = l.length := by omega
    rw [List.take_length] at hno
    simp [h0, h1, h5, intS]
    refine finA_drop ?_
    rw [hcb]; simp [hno]

theorem w_HasS_big (l : List Int) (hl : l.length ≤ 4611686018427387904) (y : Int) : Pure Try.prog 29 [intS l, .int .i64 y] (.bool (l.contains y)) := w_HasS l hl y
theorem isPR_form (n : Int) (l : List Ed) (m : List Int) : ∃ (c : Int) (b : Bool), isPR n l m = .tup [.int .i64 c, .bool b] := by
  unfold isPR
  split
  · exact ⟨_, _, rfl⟩
  · exact ⟨_, _, rfl⟩
theorem turnA_slotI {K : AF → AHeap → Prop} {t : AF} {h0 : AHeap} (i b : Nat) (l : List Int) (ht : t i = .osl b 0 l.length 1) (hf : Fresh h0 b) (hne : l ≠ []) (q : K (t.put i (intL l)) h0) : turnA K t (h0.upd b (.cells (intC l))) := by
  refine turnA_frz 2 h0 (t.put i (intL l)) (Drop.new (Drop.refl _) (by simpa [Fresh] using hf)) (fun j => ?_) q
  by_cases e : j = i
  · subst e
    refine .inr ?_
    rw [ht, frz_osl hf]
    simp [intL, hne]
    rw [map_frozen intC_frozen]
    exact (List.take_of_length_le (by simp)).symm
  · exact .inl (by simp [AF.put, e])
theorem turnA_ownI {K : AF → AHeap → Prop} {t : AF} {h0 : AHeap} (i : Nat) (o : Option Nat) (l : List Int) (ht : t i = ownV o l.length 1) (hf : FreshO h0 o) (hn : o = none ↔ l = []) (q : K (t.put i (intL l)) h0) : turnA K t (h0.updO o (intC l)) := by
  cases o with
  | none =>
    have e : t.put i (intL l) = t := by
      funext j
      by_cases e : j = i
      · subst e; rw [ht, hn.1 rfl]; simp [AF.put, intL]
      · simp [AF.put, e]
    rw [e] at q
    exact turnA_self q
  | some b => exact turnA_slotI i b l ht hf (fun e => nomatch hn.2 e) q
structure JZ where
  k : Nat
  m : List Int
  s : List Int
structure MZ where
  i : Nat
  m : List Int
structure SZ where
  i : Nat
  s : List Int
  o : Option Nat
theorem w_PairJudges (n : Int) (l : List Ed) (hl : l.length ≤ 4611686018427387904) (mate set : List Int) (hmt : mate.length ≤ 4611686018427387904) (hst : set.length ≤ 4611686018427387904) :
    Pure Try.prog 6 [.agg [.int .i64 n, edS l], intS mate, intS set] (.bool true) := by
  refine pure_of (acalls_of Try.func6 rfl Try.call6 (by kernel_rfl) (by show _ ≤ (198 : Nat); simp) ?_)
  have ct := w_tame n l hl 7 12 ⟨by omega, by omega⟩ (by omega)
  have hP2 := tameP_le (n := n) (points := 7) (by omega)
  obtain ⟨P, hP⟩ : ∃ P, P = tameP n 7 := ⟨_, rfl⟩
  rw [← hP] at ct hP2
  obtain ⟨g, hE12⟩ := tameE_ok (P := P) (by omega) 12 l [] GOk.nil (by simp)
  obtain ⟨E, hE⟩ : ∃ E, E = tameE P 12 [] l := ⟨_, rfl⟩
  rw [← hE] at ct g hE12
  have hck : chkG P E = 0 := chk_good (by omega) (by omega) (by omega) g
  have crm := l_raw mate 9 hmt (by omega)
  have crs := l_raw set 9 hst (by omega)
  have cg := l_give P E
  have cp := fun m (hm : m.length ≤ 1000000) => w_IsPairing P E (by omega) m hm
  have cq := fun m (hm : m.length ≤ 1000000) => w_RIsPairing P E (by omega) m hm
  have cb := fun s (hs : s.length ≤ 1000000) k => w_IsBarrier P E (by omega) s hs k
  have cr := fun s (hs : s.length ≤ 1000000) k => w_RIsBarrier P E (by omega) s hs k
  have cf := fun s (hs : s.length ≤ 1000000) => w_Falls P (by omega) E (by omega) s hs
  obtain ⟨V, hV⟩ : ∃ V, V = edL E := ⟨_, rfl⟩
  have hV1 : V.one = true := by rw [hV]; simp
  have hV2 : V.fit = true := by rw [hV]; simp
  have hV3 : V.cells = [V] := by rw [hV]; simp
  have hlen : ∀ h : AHeap, lenA Try.prog h 42 V = some (.int .i64 (E.length : Int)) := fun h => by rw [hV]; exact lenA_edL E
  have hg : gV P E = .agg [.int .i64 P, V] := by rw [hV]; rfl
  simp only [hg] at ct cg cp cq cb cr cf
  have chs := fun y => w_HasS_big set hst y
  unfold intS at crm crs chs ⊢
  unfold edS at ct ⊢
  simp
  intro b3 hb3
  simp
  refine ct.use ?_
  simp [hV1, hV2, hV3]
  intro b7 hb7
  simp at hb7
  simp [hb7, splice, hV1, hV2, hV3]
  refine cg.use ?_
  simp [hV1, hV2, hV3]
  intro b8 hb8
  simp at hb8
  simp [hb8, hb7, splice, hV1, hV2, hV3]
  refine crm.use ?_
  simp
  refine crs.use ?_
  simp
  obtain ⟨H0, hH0⟩ : ∃ H0, H0 = ((AHeap.empty.upd b3 (.cells [.int .i64 n, .sl l.length (edC l)])).upd b7 (.cells [.int .i64 P, V])).upd b8 (.cells [.int .i64 P, V]) := ⟨_, rfl⟩
  have d7 : ∀ off, cellsAt H0 b7 off = some (([.int .i64 P, V] : List AV).drop off) := fun off => by rw [hH0]; simp [hb7, hb8]
  have d8 : ∀ off, cellsAt H0 b8 off = some (([.int .i64 P, V] : List AV).drop off) := fun off => by rw [hH0]; simp [hb7, hb8]
  rw [← hH0]
  refine awp_loop_g (γ := JZ) (fun z t h => (z.k ≤ 3) ∧ (z.m.length ≤ 1000000) ∧ (z.s.length ≤ 1000000) ∧ (∃ p : Int, t 11 = .int .i64 p) ∧ t 1 = .sl mate.length (intC mate) ∧ t 2 = .sl set.length (intC set) ∧ t 6 = .bool false ∧ t 7 = .ptr b7 0 ∧ t 8 = .ptr b8 0 ∧ t 9 = intL z.m ∧ t 10 = intL z.s ∧ t 12 = .int .i64 z.k ∧ h = H0) (fun z => 3 - z.k) (⟨0, mate.take 9, set.take 9⟩) (turnA_self ⟨by simp, by simp; omega, by simp; omega, ⟨set.length, by simp⟩, by simp⟩) ?_
  rintro z t hx ⟨hk, hm, hs, hp, h1, h2, h6, h7, h8, h9, h10, h12, ex⟩
  rw [ex]
  clear ex
  obtain ⟨k, m, s⟩ := z
  simp only at h1 h2 h6 h7 h8 h9 h10 h12 hk hm hs
  obtain ⟨p, h11⟩ := hp
  by_cases hk3 : k < 3
  rotate_left
  · obtain rfl : k = 3 := by omega
    simp [h1, h2, h6, h7, h8, h9, h10, h12]
    refine w_awake.use ?_
    simp [h1, h2, h6, h7, h8, h9, h10, h12]
    exact finA_drop rfl
  have hkI : (k : Int) < 3 := by omega
  have hwk : IntKind.i64.wrap ((k : Int) + 1) = (k : Int) + 1 := wrap_i64 (by omega) (by omega)
  have cp1 := cp m hm
  have cq1 := cq m hm
  rw [isP_same] at cp1
  obtain ⟨c, b, hcb⟩ := isPR_form P E m
  rw [hcb] at cp1 cq1
  have cb1 := cb s hs p
  have cr1 := cr s hs p
  obtain ⟨B, hB⟩ : ∃ B, barB P E s p = B := ⟨_, rfl⟩
  rw [hB] at cb1 cr1
  simp [h1, h2, h6, h7, h8, h9, h10, h12, h11, hkI, d7, d8, hV1, hV2, hV3]
  refine cp1.use ?_
  simp [h1, h2, h6, h7, h8, h9, h10, h12, h11, d7, d8, hV1, hV2, hV3]
  refine cq1.use ?_
  simp [h1, h2, h6, h7, h8, h9, h10, h12, h11, d7, d8, hV1, hV2, hV3]
  refine awp_draw_text (by kernel_rfl) [62, 66] [(.fn (.func 27) [] [], [.agg [.int .i64 P, V], intL s, .int .i64 p], .bool B), (.fn (.func 28) [] [], [.agg [.int .i64 P, V], intL s, .int .i64 p], .bool B)] (by kernel_rfl) (by kernel_rfl) (by simp; exact ⟨PureV.of cb1, PureV.of cr1⟩) ?_
  simp [h1, h2, h6, h7, h8, h9, h10, h12, h11, d7, d8, hV1, hV2, hV3, gamGet_here, gamGet_cons]
  refine ⟨by omega, fun bm hbm => ?_⟩
  have nb7 := ne_fresh (d7 0) hbm
  have nb8 := ne_fresh (d8 0) hbm
  have hrep : List.replicate P (AV.int .i64 0) = intC (List.replicate P 0) := by simp [intC]
  rw [hrep]
  simp [h1, h2, h6, h7, h8, h9, h10, h12, h11, d7, d8, nb7, nb8]
  refine loop_cut (fun t hq => ∃ mm : List Int, (mm.length = P) ∧ t 1 = .sl mate.length (intC mate) ∧ t 2 = .sl set.length (intC set) ∧ t 6 = .bool false ∧ t 7 = .ptr b7 0 ∧ t 8 = .ptr b8 0 ∧ t 9 = .osl bm 0 P 1 ∧ t 12 = .int .i64 k ∧ hq = H0.upd bm (.cells (intC mm))) ?_ ?_
  · refine awp_loop_g (γ := MZ) (fun y t h => (y.i ≤ P) ∧ (y.m.length = P) ∧ t 1 = .sl mate.length (intC mate) ∧ t 2 = .sl set.length (intC set) ∧ t 6 = .bool false ∧ t 7 = .ptr b7 0 ∧ t 8 = .ptr b8 0 ∧ t 9 = .osl bm 0 P 1 ∧ t 12 = .int .i64 k ∧ t 17 = .int .i64 y.i ∧ h = H0.upd bm (.cells (intC y.m))) (fun y => P - y.i) (⟨0, List.replicate P 0⟩) (turnA_self (by simp [h1, h2, h6, h7, h8, h9, h10, h12])) ?_
    rintro y t hx ⟨hi, hml, h1, h2, h6, h7, h8, h9, h12, h17, ex⟩
    obtain ⟨i, mm⟩ := y
    simp only at h1 h2 h6 h7 h8 h9 h12 h17 hi hml ex
    rw [ex]
    clear ex
    by_cases hlt : i < P
    · have hltI : (i : Int) < (P : Int) := by omega
      have hwi : IntKind.i64.wrap ((i : Int) + 1) = (i : Int) + 1 := wrap_i64 (by omega) (by omega)
      have him : i < (intC mm).length := by simp; omega
      have hset : ∀ x : Int, (intC mm).set i (.int .i64 x) = intC (mm.set i x) := fun x => by simp [intC, List.map_set]
      simp [h1, h2, h6, h7, h8, h9, h12, h17, hlt, hltI, splice_one him, hset]
      exact ⟨by omega, turnA_self ⟨⟨i + 1, mm.set i (-1)⟩, by simp only; omega, by simp only; omega, by simp [hml], by simp [h1, h2, h6, h7, h8, h9, h12, h17, hwi]⟩⟩
    · have hiP : i = P := by omega
      simp [h1, h2, h6, h7, h8, h9, h12, h17, hiP]
      exact ⟨mm, hml, rfl⟩
  intro t hq ⟨mm, hml, h1, h2, h6, h7, h8, h9, h12, ehq⟩
  rw [ehq]
  clear ehq
  simp [h1, h2, h6, h7, h8, h9, h12]
  refine loop_cut (fun t hq => ∃ m2 : List Int, (m2.length = P) ∧ t 1 = .sl mate.length (intC mate) ∧ t 2 = .sl set.length (intC set) ∧ t 6 = .bool false ∧ t 7 = .ptr b7 0 ∧ t 8 = .ptr b8 0 ∧ t 9 = .osl bm 0 P 1 ∧ t 12 = .int .i64 k ∧ hq = H0.upd bm (.cells (intC m2))) ?_ ?_
  · refine awp_loop_g (γ := MZ) (fun y t h => (y.i ≤ mate.length) ∧ (y.m.length = P) ∧ t 1 = .sl mate.length (intC mate) ∧ t 2 = .sl set.length (intC set) ∧ t 6 = .bool false ∧ t 7 = .ptr b7 0 ∧ t 8 = .ptr b8 0 ∧ t 9 = .osl bm 0 P 1 ∧ t 12 = .int .i64 k ∧ t 18 = .int .i64 y.i ∧ h = H0.upd bm (.cells (intC y.m))) (fun y => mate.length - y.i) (⟨0, mm⟩) (turnA_self (by simp [h1, h2, h6, h7, h8, h9, h12]; exact hml)) ?_
    rintro y t hx ⟨hi, hyl, h1, h2, h6, h7, h8, h9, h12, h18, ex⟩
    clear hml
    obtain ⟨i, mm⟩ := y
    simp only at h1 h2 h6 h7 h8 h9 h12 h18 hi hyl ex
    rw [ex]
    clear ex
    by_cases hlt : i < mate.length
    · have hltI : (i : Int) < (mate.length : Int) := by omega
      have hwi : IntKind.i64.wrap ((i : Int) + 1) = (i : Int) + 1 := wrap_i64 (by omega) (by omega)
      have hls : ∀ (h : AHeap) (l : List Int), lenA Try.prog h 24 (.sl l.length (intC l)) = some (.int .i64 (l.length : Int)) := fun h l => by simp
      simp [h1, h2, h6, h7, h8, h9, h12, h18, hlt, hltI, nb7, nb8, d7, d8, hlen, hls, -lenA]
      simp [h1, h2, h6, h7, h8, h9, h12, h18, hlt, hltI, nb7, nb8, d7, d8, hlen, hls, -lenA]
      by_cases hE0 : E.length = 0
      · have hE0' : E = [] := List.eq_nil_of_length_eq_zero hE0
        simp [h1, h2, h6, h7, h8, h9, h12, h18, hE0']
        exact ⟨mm, hyl, rfl⟩
      have hE0' : ¬ E = [] := fun e => hE0 (by rw [e]; rfl)
      obtain ⟨x, hx⟩ : ∃ x, mate[i]? = some x := ⟨_, List.getElem?_eq_getElem hlt⟩
      have hat := intC_at hx
      have ux := u64_nonneg x
      have hEne : ¬ (E.length : Int) = 0 := by omega
      obtain ⟨r, hr⟩ : ∃ r : Nat, IntKind.u64.wrap x % (E.length : Int) = r := ⟨(IntKind.u64.wrap x % (E.length : Int)).toNat, by have := Int.emod_nonneg (IntKind.u64.wrap x) hEne; omega⟩
      have hrE : r < E.length := by have := Int.emod_lt_of_pos (IntKind.u64.wrap x) (show (0 : Int) < (E.length : Int) by omega); omega
      have uE : IntKind.u64.wrap (E.length : Int) = (E.length : Int) := wrap_u64 (by omega) (by omega)
      have ta : (IntKind.u64.wrap x).tmod (E.length : Int) = r := by rw [Int.tmod_eq_emod_of_nonneg ux.1, hr]
      have wr : IntKind.i64.wrap (r : Int) = r := wrap_i64 (by omega) (by omega)
      have hVs : V = .sl E.length (edC E) := by rw [hV]; exact edL_ne hrE
      obtain ⟨e, he⟩ : ∃ e, E[r]? = some e := ⟨_, List.getElem?_eq_getElem hrE⟩
      have hatE := edC_at he
      have hi3 : 2 ≤ E.length * 2 - r * 2 := by omega
      have hi4 : min 2 (E.length * 2 - r * 2) = 2 := by omega
      have hok := g.ed e (List.mem_of_getElem? he)
      obtain ⟨a, ha⟩ : ∃ a : Nat, e.1 = a := ⟨e.1.toNat, by have := hok.1; omega⟩
      obtain ⟨b', hb'⟩ : ∃ b : Nat, e.2 = b := ⟨e.2.toNat, by have := hok.2.2.1; omega⟩
      have haP : a < P := by have := hok.2.1; omega
      have hbP : b' < P := by have := hok.2.2.2.1; omega
      have haPI : (a : Int) < (P : Int) := by omega
      have hbPI : (b' : Int) < (P : Int) := by omega
      have hlenE : ∀ h : AHeap, lenA Try.prog h 42 (.sl E.length (edC E)) = some (.int .i64 (E.length : Int)) := fun h => by simp
      have hz : zcells [.int .i64 0, .int .i64 0] 1 = [.int .i64 0, .int .i64 0] := rfl
      rw [ha, hb'] at hatE
      simp [h1, h2, h6, h7, h8, h9, h12, h18, hE0', hE0]
      refine awp_draw_text (by kernel_rfl) [] [] (by kernel_rfl) (by kernel_rfl) (by simp) ?_
      simp [h1, h2, h6, h7, h8, h9, h12, h18, hlt, hltI, nb7, nb8, d7, d8, hlenE, hls, -lenA, hat, uE, ta, wr, hVs, hatE, hrE, hi3, hi4, hE0, hz]
      intro b19 hb19
      simp at hb19
      have n7 := ne_fresh (d7 0) hb19.2.2
      have n8 := ne_fresh (d8 0) hb19.2.2
      obtain ⟨xa, hxa⟩ : ∃ xa, mm[a]? = some xa := ⟨_, List.getElem?_eq_getElem (by omega)⟩
      obtain ⟨xb, hxb⟩ : ∃ xb, mm[b']? = some xb := ⟨_, List.getElem?_eq_getElem (by omega)⟩
      have hata := intC_at hxa
      have hatb := intC_at hxb
      have hga : (intC mm)[a]? = some (.int .i64 xa) := by simp [intC, hxa]
      have hgb : (intC mm)[b']? = some (.int .i64 xb) := by simp [intC, hxb]
      have ima : a < (intC mm).length := by simp; omega
      have imb : ∀ x, b' < ((intC mm).set a x).length := by simp; omega
      have hset : ∀ (mm : List Int) (i : Nat) (x : Int), (intC mm).set i (.int .i64 x) = intC (mm.set i x) := fun mm i x => by simp [intC, List.map_set]
      simp [h1, h2, h6, h7, h8, h9, h12, h18, hb19, n7, n8, splice, hata, hatb, hga, hgb, haP, hbP, haPI, hbPI]
      have hspl : ∀ x y : Int, splice (intC (mm.set a x)) b' [.int .i64 y] = intC ((mm.set a x).set b' y) := fun x y => by rw [splice_one (by simp; omega), hset]
      have D : ∀ m3 : List Int, Drop ((H0.upd bm (.cells (intC m3))).upd b19 (.cells [.int .i64 (a : Int), .int .i64 (b' : Int)])) (H0.upd bm (.cells (intC m3))) := fun m3 => Drop.new (Drop.refl _) (by simp [hb19])
      have D1 := D mm
      by_cases c1 : xa < 0
      · by_cases c2 : xb < 0
        · simp [h1, h2, h6, h7, h8, h9, h12, h18, c1, c2, hb19, n7, n8, hga, hgb, haP, hbP, haPI, hbPI, splice_one ima, hset, hspl]
          have D2 := D ((mm.set a b').set b' a)
          exact ⟨by omega, by omega, turnA_to _ D2 ⟨⟨i + 1, (mm.set a b').set b' a⟩, by simp only; omega, by simp only; omega, by simp [hyl], by simp [h1, h2, h6, h7, h8, h9, h12, h18, hwi]⟩⟩
        · simp [h1, h2, h6, h7, h8, h9, h12, h18, c1, c2, hga, hgb, hb19, haP, hbP, haPI, hbPI]
          exact turnA_to _ D1 ⟨⟨i + 1, mm⟩, by simp only; omega, by simp only; omega, hyl, by simp [h1, h2, h6, h7, h8, h9, h12, h18, hwi]⟩
      · simp [h1, h2, h6, h7, h8, h9, h12, h18, c1, hga, hgb, hb19]
        exact turnA_to _ D1 ⟨⟨i + 1, mm⟩, by simp only; omega, by simp only; omega, hyl, by simp [h1, h2, h6, h7, h8, h9, h12, h18, hwi]⟩
    · have hiP : i = mate.length := by omega
      simp [h1, h2, h6, h7, h8, h9, h12, h18, hiP]
      exact ⟨mm, hyl, rfl⟩
  intro t hq ⟨m2, hml2, h1, h2, h6, h7, h8, h9, h12, ehq⟩
  rw [ehq]
  clear ehq
  clear hml
  simp only [awp_seq, awp_region]
  refine awpOps_mono (K := fun t hq => ∃ B : Bool, (B = true → 0 < mate.length) ∧ t 138 = .bool B ∧ t 1 = .sl mate.length (intC mate) ∧ t 2 = .sl set.length (intC set) ∧ t 6 = .bool false ∧ t 7 = .ptr b7 0 ∧ t 8 = .ptr b8 0 ∧ t 9 = .osl bm 0 P 1 ∧ t 12 = .int .i64 k ∧ hq = H0.upd bm (.cells (intC m2))) ?_ _ _ _ ?_
  rotate_left
  · by_cases ekI : (k : Int) = 1
    · simp [h1, h2, h6, h7, h8, h9, h12, ekI]
    · simp [h1, h2, h6, h7, h8, h9, h12, ekI]
  rintro t hq ⟨B2, hB2, h138, h1, h2, h6, h7, h8, h9, h12, rfl⟩
  simp only [thenA_normal, awp_seq, awp_cond]
  refine condA_cut (fun t hq => ∃ m4 : List Int, (m4.length = P) ∧ t 1 = .sl mate.length (intC mate) ∧ t 2 = .sl set.length (intC set) ∧ t 6 = .bool false ∧ t 7 = .ptr b7 0 ∧ t 8 = .ptr b8 0 ∧ t 9 = .osl bm 0 P 1 ∧ t 12 = .int .i64 k ∧ hq = H0.upd bm (.cells (intC m4))) ?_ ?_
  · cases B2 with
    | false =>
      simp [h138, h1, h2, h6, h7, h8, h9, h12]
      exact ⟨m2, hml2, rfl⟩
    | true =>
      have hpos := hB2 rfl
      obtain ⟨x, hx⟩ : ∃ x, mate[0]? = some x := ⟨_, List.getElem?_eq_getElem hpos⟩
      have hat := intC_at hx
      simp only [List.drop_zero, Nat.zero_add] at hat
      obtain ⟨rest, hrest⟩ : ∃ rest, rest = (intC mate).drop 1 := ⟨_, rfl⟩
      rw [← hrest] at hat
      clear hrest
      have hposN : ¬ mate.length = 0 := by omega
      have hposM : ¬ mate = [] := fun e => hposN (by rw [e]; rfl)
      have ux := u64_nonneg x
      have us := u64_nonneg (set.length : Int)
      have hPne : ¬ (P : Int) = 0 := by omega
      have hP1 : ¬ (P : Int) + 1 = 0 := by omega
      obtain ⟨r, hr⟩ : ∃ r : Nat, IntKind.u64.wrap x % (P : Int) = r := ⟨(IntKind.u64.wrap x % (P : Int)).toNat, by have := Int.emod_nonneg (IntKind.u64.wrap x) hPne; omega⟩
      have hrP : r < P := by have := Int.emod_lt_of_pos (IntKind.u64.wrap x) (show (0 : Int) < (P : Int) by omega); omega
      have hrPI : (r : Int) < (P : Int) := by omega
      have uP : IntKind.u64.wrap (P : Int) = (P : Int) := wrap_u64 (by omega) (by omega)
      have uS : IntKind.u64.wrap (set.length : Int) = (set.length : Int) := wrap_u64 (by omega) (by omega)
      have wP1 : IntKind.i64.wrap ((P : Int) + 1) = (P : Int) + 1 := wrap_i64 (by omega) (by omega)
      have uP1 : IntKind.u64.wrap ((P : Int) + 1) = (P : Int) + 1 := wrap_u64 (by omega) (by omega)
      have ta : (IntKind.u64.wrap x).tmod (P : Int) = r := by rw [Int.tmod_eq_emod_of_nonneg ux.1, hr]
      have wr : IntKind.i64.wrap (r : Int) = r := wrap_i64 (by omega) (by omega)
      have hsp : ∀ y : Int, splice (intC m2) r [.int .i64 y] = intC (m2.set r y) := fun y => by rw [splice_one (by simp; omega)]; simp [intC, List.map_set]
      have irm : r < (intC m2).length := by simp; omega
      simp [h138]
      refine awp_draw_text (by kernel_rfl) [] [] (by kernel_rfl) (by kernel_rfl) (by simp) ?_
      simp [h138, h1, h2, h6, h7, h8, h9, h12, hpos, hposN, hposM, hat, uP, uS, wP1, uP1, ta, wr, hPne, hP1, hrP, hrPI, hsp]
      exact ⟨by omega, fun _ => ⟨by omega, _, by simp [hml2], rfl⟩⟩
  intro t hq ⟨m4, hml4, h1, h2, h6, h7, h8, h9, h12, ehq⟩
  rw [ehq]
  clear ehq
  clear hml2
  simp [h1, h2, h6, h7, h8, h9, h12]
  refine awp_loop_t (γ := SZ) (fun u t h => (u.i ≤ P) ∧ (u.s.length ≤ u.i) ∧ ((u.o = none ↔ u.s = []) ∧ FreshO (H0.upd bm (.cells (intC m4))) u.o) ∧ t 1 = .sl mate.length (intC mate) ∧ t 2 = .sl set.length (intC set) ∧ t 6 = .bool false ∧ t 7 = .ptr b7 0 ∧ t 8 = .ptr b8 0 ∧ t 9 = .osl bm 0 P 1 ∧ t 10 = ownV u.o u.s.length 1 ∧ t 12 = .int .i64 k ∧ t 20 = .int .i64 u.i ∧ h = (H0.upd bm (.cells (intC m4))).updO u.o (intC u.s)) (fun u => P - u.i) (⟨0, [], none⟩) (turnA_self (by simp [h1, h2, h6, h7, h8, h9, h12])) ?_
  rintro u t hx ⟨hi, hsl, hv, h1, h2, h6, h7, h8, h9, h10, h12, h20, ex⟩
  obtain ⟨i, s2, o⟩ := u
  simp only at h1 h2 h6 h7 h8 h9 h10 h12 h20 hi hsl hv ex
  rw [ex]
  clear ex
  obtain ⟨hv1, hv2⟩ := hv
  obtain ⟨H1, hH1⟩ : ∃ H1, H1 = H0.upd bm (.cells (intC m4)) := ⟨_, rfl⟩
  have e7 : ∀ off, cellsAt H1 b7 off = some (([.int .i64 P, V] : List AV).drop off) := fun off => by rw [hH1]; simp [nb7, d7]
  have e8 : ∀ off, cellsAt H1 b8 off = some (([.int .i64 P, V] : List AV).drop off) := fun off => by rw [hH1]; simp [nb8, d8]
  have o7 : ¬ o = some b7 := fun e => by subst e; rw [← hH1] at hv2; exact (ne_fresh (e7 0) hv2).1 rfl
  have o8 : ¬ o = some b8 := fun e => by subst e; rw [← hH1] at hv2; exact (ne_fresh (e8 0) hv2).1 rfl
  rw [← hH1] at hv2 ⊢
  by_cases hlt : i < P
  · have hltI : (i : Int) < (P : Int) := by omega
    have hwi : IntKind.i64.wrap ((i : Int) + 1) = (i : Int) + 1 := wrap_i64 (by omega) (by omega)
    simp [h1, h2, h6, h7, h8, h9, h10, h12, h20, hlt, hltI, e7, e8, o7, o8]
    refine (chs i).use ?_
    obtain ⟨B3, hB3⟩ : ∃ B3, set.contains (i : Int) = B3 := ⟨_, rfl⟩
    rw [hB3]
    cases B3 with
    | false =>
      simp [h1, h2, h6, h7, h8, h9, h10, h12, h20]
      exact turnA_self ⟨⟨i + 1, s2, o⟩, by simp only; omega, by simp only; omega, by simp only; omega, ⟨hv1, hv2⟩, by simp [h1, h2, h6, h7, h8, h9, h10, h12, h20, hwi, ← hH1]⟩
    | true =>
      simp [h1, h2, h6, h7, h8, h9, h10, h12, h20]
      intro bn hbn
      simp at hbn
      simp [h1, h2, h6, h7, h8, h9, h10, h12, h20, hbn]
      refine appendA_updO (by omega) (by omega) (fun e => by rw [hv1.1 e]; rfl) (by simp) (by simp) (by simp [hv2, hbn]) fun b' hb' => ?_
      simp at hb'
      have hts : intC s2 ++ [.int .i64 (i : Int)] = intC (s2 ++ [(i : Int)]) := by simp [intC]
      rw [hts]
      simp [h1, h2, h6, h7, h8, h9, h10, h12, h20, hb', hbn]
      refine turnA_to (H1.updO (some b') (intC (s2 ++ [(i : Int)]))) ?_ ⟨⟨i + 1, s2 ++ [(i : Int)], some b'⟩, by simp only; omega, by simp only; omega, by simp; omega, by simp [hb', ← hH1], by simp [h1, h2, h6, h7, h8, h9, h10, h12, h20, hwi, ← hH1]⟩
      simp
      exact Drop.both (Drop.new (Drop.refl _) (by simp [hbn]))
  have hiP : i = P := by omega
  simp [h1, h2, h6, h7, h8, h9, h10, h12, h20, hiP, e7, e8, o7, o8]
  refine turnA_ownI 10 o s2 (by simp [h1, h2, h6, h7, h8, h9, h10, h12, h20]) hv2 hv1 ?_
  simp [h1, h2, h6, h7, h8, h9, h10, h12, h20, e7, e8, hV1, hV2, hV3]
  have cf2 := cf s2 (by omega)
  obtain ⟨ps, hps⟩ : ∃ ps, ps = fallsB (joinB E) (fun x => s2.contains x) P P := ⟨_, rfl⟩
  have hPs : ∀ i, i < ps.length → partsL ps = .sl ps.length (partsC ps) := fun i h => by unfold partsL; rw [if_neg (fun e => by rw [e] at h; simp at h)]
  have hPl : ∀ h : AHeap, lenA Try.prog h 56 (partsL ps) = some (.int .i64 (ps.length : Int)) := fun h => by
    unfold partsL
    split
    · next e => rw [e]; simp
    · simp
  have hpl : ps.length ≤ P := by rw [hps]; exact fallsB_len P
  have hpc : (partsC ps).length = ps.length := by simp [partsC]
  rw [← hps] at cf2
  refine cf2.use ?_
  simp
  refine awp_loop_g (γ := Nat) (fun i t h => (i ≤ ps.length) ∧ (∃ x : Int, t 21 = .int .i64 x) ∧ t 1 = .sl mate.length (intC mate) ∧ t 2 = .sl set.length (intC set) ∧ t 6 = .bool false ∧ t 7 = .ptr b7 0 ∧ t 8 = .ptr b8 0 ∧ t 9 = .osl bm 0 P 1 ∧ t 10 = intL s2 ∧ t 12 = .int .i64 k ∧ t 22 = partsL ps ∧ t 23 = .int .i64 i ∧ h = H1) (fun i => ps.length - i) (0) (turnA_self ⟨Nat.zero_le _, ⟨0, by simp⟩, by simp [h1, h2, h6, h7, h8, h9, h10, h12, h20]⟩) ?_
  rintro i t hx ⟨hi3, ho3, h1, h2, h6, h7, h8, h9, h10, h12, h22, h23, ex⟩
  rw [ex]
  clear ex
  obtain ⟨x3, h21⟩ := ho3
  by_cases hl3 : i < ps.length
  · have hwi : IntKind.i64.wrap ((i : Int) + 1) = (i : Int) + 1 := wrap_i64 (by omega) (by omega)
    have hltI : (i : Int) < (ps.length : Int) := by omega
    obtain ⟨p, hp⟩ : ∃ p, ps[i]? = some p := ⟨_, List.getElem?_eq_getElem hl3⟩
    have hat := partsC_at hp
    simp [h1, h2, h6, h7, h8, h9, h10, h12, h22, h23, h21, hltI, hPs i hl3, hat, hl3, hpc]
    exact turnA_self ⟨i + 1, by omega, by omega, ⟨IntKind.i64.wrap (x3 + (p.length : Int).tmod 2), by simp⟩, by simp [h1, h2, h6, h7, h8, h9, h10, h12, h22, h23, hPs i hl3, hwi]⟩
  have hi3' : i = ps.length := by omega
  have hsl2 : ∀ h : AHeap, lenA Try.prog h 24 (intL s2) = some (.int .i64 (s2.length : Int)) := fun h => lenA_intL s2
  simp [h1, h2, h6, h7, h8, h9, h10, h12, h22, h23, h21, hi3', hPl, e7, e8, hsl2, -lenA]
  rw [hH1]
  refine turnA_slotI 9 bm m4 (by simp [h1, h2, h6, h7, h8, h9, h10, h12, h22, h23, hml4]) hbm (fun e => by rw [e] at hml4; simp at hml4; omega) ⟨⟨k + 1, m4, s2⟩, by simp only; omega, by simp only; omega, by simp only; omega, by simp only; omega, ⟨IntKind.i64.wrap ((IntKind.i64.wrap (IntKind.i64.wrap ((P : Int) + s2.length) - x3)).tdiv 2), by simp⟩, by simp [h1, h2, h6, h7, h8, h9, h10, h12, h22, h23, hwk]⟩
end Go.Proofs
