/-
  Ring: the walk of RingProves.
-/
import Derived.Test.YtobdaaoefbgilaaRgK6
set_option linter.unusedSimpArgs false
set_option linter.unusedVariables false
set_option linter.unusedSectionVars false
namespace Go.Proofs
open Go Go.AH
set_option maxRecDepth 10000
set_option maxHeartbeats 4000000

/-- A list in a slot that may be one's own; what else there is may be given up. -/
def Own (H : AHeap) (V : AV) (HV : AHeap) (A : List Int) : Prop := Drop HV H ∧ (V = listI A ∨ ∃ (b off : Nat) (l : List Int), V = .osl b off A.length 1 ∧ cellsAt HV b 0 = some (l.map (.int .i64)) ∧ Fresh H b ∧ A = l.drop off ∧ A ≠ [])
theorem turnA_own {K : AF → AHeap → Prop} {t : AF} {H HV : AHeap} {V : AV} {A : List Int} (j : Nat) (hj : t j = V) (o : Own H V HV A) (q : K (t.put j (listI A)) H) : turnA K t HV := by
  rcases o with ⟨hd, rfl | ⟨b, off, l, rfl, hc, hb, rfl, hne⟩⟩
  · refine turnA_to H hd ?_
    have : t.put j (listI A) = t := by
      apply funext; intro i
      simp only [AF.put]
      split
      · next e => subst e; exact hj.symm
      · rfl
    rw [this] at q; exact q
  · refine turnA_frz 1 H (t.put j (listI (l.drop off))) hd (fun i => ?_) q
    by_cases e : i = j
    · subst e
      right
      have hol : off + (l.length - off) ≤ l.length := by
        have : 0 < (l.drop off).length := List.length_pos_iff.2 hne
        simp at this; omega
      have ht2 : (l.drop off).take (l.length - off) = l.drop off := List.take_of_length_le (by simp)
      rw [hj, frz_osl hb, hc]
      simp [AF.put, hol]
      rw [listI_ne hne, intsA]
      simp
      show _ = List.take (l.length - off) (List.drop off (List.map (AV.int .i64) l))
      rw [← List.map_drop, ← List.map_take, ht2]
    · left
      simp [AF.put, e]
theorem own_val {H : AHeap} {l : List Int} : Own H (listI l) H l := ⟨Drop.refl _, .inl rfl⟩
theorem own_blk {H HV : AHeap} {b : Nat} {l : List Int} (hd : Drop HV H) (hc : cellsAt HV b 0 = some (l.map (.int .i64))) (hb : Fresh H b) (hne : l ≠ []) : Own H (.osl b 0 l.length 1) HV l := ⟨hd, .inr ⟨b, 0, l, rfl, hc, hb, rfl, hne⟩⟩
theorem own_some {H : AHeap} {o : Option Nat} {l : List Int} (h1 : o = none ↔ l = []) (h2 : FreshO H o) : Own H (ownV o l.length 1) (H.updO o (l.map (.int .i64))) l := by
  cases o with
  | none => rw [h1.1 rfl]; exact ⟨Drop.refl _, .inl rfl⟩
  | some b => exact own_blk (Drop.new (Drop.refl _) h2) (by simp) h2 (fun e => by have := h1.2 e; cases this)

structure PK where
  k : Nat
  A : List Int
  B : List Int
structure PS where
  i : Nat
  a : Nat
  V : AV
  HV : AHeap
  B : List Int
theorem gam_round {f : AV} {x l : AV} {r : Rul} {B : List Int} {a : Bool} {Γ : Gam} (h : gamGet Γ f [x, l, .bool true] = some (.bool (isRoundF r B true))) : gamGet ((f, [x, l, .bool a], .bool (isRoundF r B a)) :: Γ) f [x, l, .bool true] = some (.bool (isRoundF r B true)) := by
  cases a with
  | true => exact gamGet_here
  | false => rw [gamGet_cons]; simp [h]
def PInv (H : AHeap) (p : PS) : Prop := (p.i ≤ 40 ∧ ∃ o : Option Nat, p.V = ownV o p.B.length 1 ∧ p.HV = H.updO o (p.B.map (.int .i64)) ∧ (o = none ↔ p.B = []) ∧ FreshO H o ∧ p.B.length ≤ p.i) ∨ (p.i = 41 ∧ p.V = listI p.B ∧ p.HV = H ∧ p.B.length ≤ 41)
theorem PInv.own {H : AHeap} {p : PS} (h : PInv H p) : Own H p.V p.HV p.B ∧ p.B.length ≤ 41 := by
  rcases h with ⟨h0, o, h1, h2, h3, h4, h5⟩ | ⟨h0, h1, h2, h3⟩
  · rw [h1, h2]; exact ⟨own_some h3 h4, by omega⟩
  · rw [h1, h2]; exact ⟨own_val, h3⟩
def dblI (x : Nat) : Int := IntKind.i64.wrap (IntKind.i64.wrap (2 * (x : Int)) + 1)
theorem l_RingProves (mach col : Int) (next : List (List Int)) (rank round : List Int) (hn : next.length ≤ 20000000000000) (hrl : ∀ row ∈ next, row.length ≤ 20000000000000) (hl0 : rank.length ≤ 20000000000000) (hl1 : round.length ≤ 20000000000000) :
    Pure Try.prog 7 [.agg [.int .i64 mach, .int .i64 col, rowsA next], intsA rank, intsA round] (.bool true) := by
  refine pure_of (acalls_of Try.func7 rfl Try.call7 (by kernel_rfl) (by show _ ≤ (175 : Nat); simp) ?_)
  have hr := tame_ok mach next rank.length
  have ct := l_tame mach col next rank.length hn hrl
  obtain ⟨r, hre⟩ : ∃ r, r = tameF mach next rank.length := ⟨_, rfl⟩
  rw [← hre] at hr ct
  have q1 := hr.m2; have q2 := hr.m6; have q3 := hr.c2; have q4 := hr.c6; have q5 := hr.sz
  have cg := l_give r
  have hav : r.av = .agg [.int .i64 r.m, .int .i64 r.c, rowsA r.next] := rfl
  have cs := r_Size r.m r.c q1 q2 q3 q4 q5
  have hSz : (pw r.c r.m : Nat) = r.size := rfl
  obtain ⟨S, hS⟩ : ∃ S, S = r.size := ⟨_, rfl⟩
  have hsp : 0 < S := by rw [hS]; exact pw_pos (by omega) _
  rw [hSz, ← hS] at cs
  rw [← hS] at q5
  have cw0 := l_rawP rank 260 hl0 (by omega)
  have cw1 := l_rawP round 12 hl1 (by omega)
  rw [hav] at ct cg
  simp
  intro b3 hb3
  simp [intsA]
  refine ct.use ?_
  simp
  intro b7 hb7
  simp at hb7
  simp [hb7]
  refine cg.use ?_
  simp
  intro b8 hb8
  simp at hb8
  simp [hb7, hb8]
  refine cs.use ?_
  simp
  refine cw0.use ?_
  simp
  refine cw1.use ?_
  simp
  have caw := w_awake
  have hA0 : (rank.take 260).length ≤ 1000000 := by rw [List.length_take]; omega
  have hB0 : (round.take 12).length ≤ 1000000 := by rw [List.length_take]; omega
  obtain ⟨H, hH⟩ : ∃ H, H = (((AHeap.empty.upd b3 (.cells [.int .i64 mach, .int .i64 col, rowsA next])).upd b7 (.cells [.int .i64 r.m, .int .i64 r.c, rowsA r.next])).upd b8 (.cells [.int .i64 r.m, .int .i64 r.c, rowsA r.next])) := ⟨_, rfl⟩
  have e7 : ∀ off, cellsAt H b7 off = some (([.int .i64 r.m, .int .i64 r.c, rowsA r.next] : List AV).drop off) := by intro off; rw [hH]; simp [hb7, hb8]
  have e8 : ∀ off, cellsAt H b8 off = some (([.int .i64 r.m, .int .i64 r.c, rowsA r.next] : List AV).drop off) := by intro off; rw [hH]; simp [hb7, hb8]
  rw [← hH]
  clear hH
  refine awp_loop_g (γ := PK) (fun q t h => (q.k ≤ 3) ∧ (q.A.length ≤ 1000000) ∧ (q.B.length ≤ 1000000) ∧ t 1 = intsA rank ∧ t 2 = intsA round ∧ t 7 = .ptr b7 0 ∧ t 8 = .ptr b8 0 ∧ t 9 = .int .i64 S ∧ t 10 = listI q.A ∧ t 11 = listI q.B ∧ t 12 = .int .i64 q.k ∧ h = H) (fun q => 3 - q.k) (⟨0, rank.take 260, round.take 12⟩) (turnA_self (by simp [-List.length_take, hA0, hB0, intsA])) ?_
  rintro q t hx ⟨hk, hA, hB, h1, h2, h7, h8, h9, h10, h11, h12, ex⟩
  rw [ex]
  clear ex
  obtain ⟨k, A, B⟩ := q
  simp only at h1 h2 h7 h8 h9 h10 h11 h12 hk hA hB
  by_cases hk3 : k < 3
  · have hwk : IntKind.i64.wrap ((k : Int) + 1) = (k : Int) + 1 := wrap_i64 (by omega) (by omega)
    have hkI : (k : Int) < 3 := by omega
    have c1 := w_IsRank r hr A hA
    have c2 := r_IsRank r hr A hA
    obtain ⟨jb, hjb⟩ : ∃ jb, jb = decide (k % 2 = 1) := ⟨_, rfl⟩
    have hvk : decide ((k : Int).tmod 2 = 1) = jb := by
      rw [hjb]
      have : k = 0 ∨ k = 1 ∨ k = 2 := by omega
      rcases this with rfl | rfl | rfl <;> rfl
    have hwr : IntKind.i64.wrap ((k : Int).tmod 2) = (k : Int).tmod 2 := by
      have : k = 0 ∨ k = 1 ∨ k = 2 := by omega
      rcases this with rfl | rfl | rfl <;> rfl
    have c3 := w_IsRound r hr B hB jb
    have c4 := r_IsRound r hr B hB jb
    have c5 := w_IsRound r hr B hB true
    have c6 := r_IsRound r hr B hB true
    rw [hav] at c1 c2 c3 c4 c5 c6
    obtain ⟨w1, hw1⟩ : ∃ w, w = isRankF r A := ⟨_, rfl⟩
    rw [← hw1] at c1 c2
    simp [h1, h2, h7, h8, h9, h10, h11, h12, hkI]
    refine awp_draw_long (by kernel_rfl) [43, 46, 54, 60, 66, 69] [(.fn (.func 33) [] [], [.agg [.int .i64 r.m, .int .i64 r.c, rowsA r.next], listI A], .bool w1),
      (.fn (.func 34) [] [], [.agg [.int .i64 r.m, .int .i64 r.c, rowsA r.next], listI A], .bool w1),
      (.fn (.func 35) [] [], [.agg [.int .i64 r.m, .int .i64 r.c, rowsA r.next], listI B, .bool jb], .bool (isRoundF r B jb)),
      (.fn (.func 36) [] [], [.agg [.int .i64 r.m, .int .i64 r.c, rowsA r.next], listI B, .bool jb], .bool (isRoundF r B jb)),
      (.fn (.func 35) [] [], [.agg [.int .i64 r.m, .int .i64 r.c, rowsA r.next], listI B, .bool true], .bool (isRoundF r B true)),
      (.fn (.func 36) [] [], [.agg [.int .i64 r.m, .int .i64 r.c, rowsA r.next], listI B, .bool true], .bool (isRoundF r B true))] (by kernel_rfl) (by kernel_rfl) (by simp; exact ⟨PureV.of c1, PureV.of c2, PureV.of c3, PureV.of c4, PureV.of c5, PureV.of c6⟩) ?_
    have g5 : gamGet [(.fn (.func 33) [] [], [.agg [.int .i64 r.m, .int .i64 r.c, rowsA r.next], listI A], .bool w1),
      (.fn (.func 34) [] [], [.agg [.int .i64 r.m, .int .i64 r.c, rowsA r.next], listI A], .bool w1),
      (.fn (.func 35) [] [], [.agg [.int .i64 r.m, .int .i64 r.c, rowsA r.next], listI B, .bool jb], .bool (isRoundF r B jb)),
      (.fn (.func 36) [] [], [.agg [.int .i64 r.m, .int .i64 r.c, rowsA r.next], listI B, .bool jb], .bool (isRoundF r B jb)),
      (.fn (.func 35) [] [], [.agg [.int .i64 r.m, .int .i64 r.c, rowsA r.next], listI B, .bool true], .bool (isRoundF r B true)),
      (.fn (.func 36) [] [], [.agg [.int .i64 r.m, .int .i64 r.c, rowsA r.next], listI B, .bool true], .bool (isRoundF r B true))] (.fn (.func 35) [] []) [.agg [.int .i64 r.m, .int .i64 r.c, rowsA r.next], listI B, .bool true] = some (.bool (isRoundF r B true)) := by cases jb <;> simp [gamGet_cons, gamGet_here]
    have g6 : gamGet [(.fn (.func 33) [] [], [.agg [.int .i64 r.m, .int .i64 r.c, rowsA r.next], listI A], .bool w1),
      (.fn (.func 34) [] [], [.agg [.int .i64 r.m, .int .i64 r.c, rowsA r.next], listI A], .bool w1),
      (.fn (.func 35) [] [], [.agg [.int .i64 r.m, .int .i64 r.c, rowsA r.next], listI B, .bool jb], .bool (isRoundF r B jb)),
      (.fn (.func 36) [] [], [.agg [.int .i64 r.m, .int .i64 r.c, rowsA r.next], listI B, .bool jb], .bool (isRoundF r B jb)),
      (.fn (.func 35) [] [], [.agg [.int .i64 r.m, .int .i64 r.c, rowsA r.next], listI B, .bool true], .bool (isRoundF r B true)),
      (.fn (.func 36) [] [], [.agg [.int .i64 r.m, .int .i64 r.c, rowsA r.next], listI B, .bool true], .bool (isRoundF r B true))] (.fn (.func 36) [] []) [.agg [.int .i64 r.m, .int .i64 r.c, rowsA r.next], listI B, .bool true] = some (.bool (isRoundF r B true)) := by cases jb <;> simp [gamGet_cons, gamGet_here]
    simp [h1, h2, h7, h8, h9, h10, h11, h12, e7, e8, gamGet_here, gamGet_cons, g5, g6, hvk, hwr]
    have cr := r_Ranks r hr false
    rw [hav] at cr
    obtain ⟨lv, okv, hrk, hlv1, hlv2, hlv3, hok⟩ : ∃ lv okv, ranksF r false = .tup [lv, .bool okv] ∧ lv.one = true ∧ lv.fit = true ∧ lv.cells = [lv] ∧ (okv = true → ∃ L : List Nat, lv = natsA L ∧ L.length = S) := by
      by_cases h : ∃ L, RkAll (goodF r) (fun n => moveL r n false) r.size L
      · obtain ⟨L, hL⟩ := h
        exact ⟨natsA L, true, ranksF_some hL, rfl, by simp, by simp, fun _ => ⟨L, rfl, by rw [hL.1, hS]⟩⟩
      · refine ⟨.nilsl, false, ?_, rfl, rfl, rfl, fun q => by cases q⟩
        unfold ranksF; rw [dif_neg h]
    rw [hrk] at cr
    refine cr.use ?_
    simp [h1, h2, h7, h8, h9, h10, h11, h12, hlv1, hlv2, hlv3]
    refine condA_cut (fun t hq => ∃ V : AV, ∃ HV : AHeap, ∃ A2 : List Int, (A2.length ≤ 1000000) ∧ (Own H V HV A2) ∧ t 1 = intsA rank ∧ t 2 = intsA round ∧ t 7 = .ptr b7 0 ∧ t 8 = .ptr b8 0 ∧ t 9 = .int .i64 S ∧ t 12 = .int .i64 k ∧ t 10 = V ∧ hq = HV) ?_ ?_
    · refine condA_case (fun e => ?_) fun e => ?_
      · obtain ⟨L, rfl, hLS⟩ := hok e
        simp [h1, h2, h7, h8, h9, h10, h11, h12]
        refine awp_loop_g (γ := At) (fun u t h => (u.i ≤ S) ∧ ((u.o = none ↔ (L.take u.i).map dblI = []) ∧ FreshO H u.o) ∧ t 1 = intsA rank ∧ t 2 = intsA round ∧ t 7 = .ptr b7 0 ∧ t 8 = .ptr b8 0 ∧ t 9 = .int .i64 S ∧ t 12 = .int .i64 k ∧ t 10 = ownV u.o ((L.take u.i).map dblI).length 1 ∧ t 13 = natsA L ∧ t 15 = .int .i64 u.i ∧ h = H.updO u.o (((L.take u.i).map dblI).map (.int .i64))) (fun u => S - u.i) (⟨0, none⟩) (turnA_self (by simp [h1, h2, h7, h8, h9, h10, h11, h12])) ?_
        rintro u t hx ⟨hu, ho, h1, h2, h7, h8, h9, h12, h10, h13, h15, ex⟩
        rw [ex]
        clear ex
        obtain ⟨i, o⟩ := u
        simp only at h1 h2 h7 h8 h9 h12 h10 h13 h15 hu ho ⊢
        obtain ⟨ho1, ho2⟩ := ho
        by_cases hi : i < S
        · have hwi : IntKind.i64.wrap ((i : Int) + 1) = (i : Int) + 1 := wrap_i64 (by omega) (by omega)
          have hiL : i < L.length := by omega
          have hLn : ¬ L = [] := fun e => by rw [e] at hiL; simp at hiL
          obtain ⟨x, hx0⟩ : ∃ x, x = L[i] := ⟨_, rfl⟩
          have hx' : L[i]'hiL = x := hx0.symm
          have hdx : IntKind.i64.wrap (IntKind.i64.wrap (2 * (x : Int)) + 1) = dblI x := rfl
          have hts : (L.take (i + 1)).map dblI = (L.take i).map dblI ++ [dblI x] := by rw [List.take_succ_eq_append_getElem hiL, hx']; simp
          obtain ⟨D, hD⟩ : ∃ D, D = (L.take i).map dblI := ⟨_, rfl⟩
          have hDl : D.length ≤ 1000000 := by rw [hD]; simp; omega
          rw [← hD] at ho1 hts h10
          rw [← hD]
          simp [h1, h2, h7, h8, h9, h12, h10, h13, h15, hi, natsA, hLS, hiL, hx', hdx]
          intro b1 hb1
          simp at hb1
          obtain ⟨z1, z2⟩ : ¬ o = some b1 ∧ Fresh H b1 := hb1
          simp [h1, h2, h7, h8, h9, h12, h10, h13, h15, z1, z2]
          refine appendA_updO (by omega) (by omega) (by simpa using ho1.1) (by simp) (by simp) (by simp [z1, z2, ho2]) fun b' hb' => ?_
          obtain ⟨z3, z3', z4⟩ : ¬ b' = b1 ∧ ¬ b1 = b' ∧ Fresh H b' := by simpa [z1, z2] using hb'
          simp [h1, h2, h7, h8, h9, h12, h10, h13, h15, z1, z2, z3, z3', z4]
          refine turnA_to (H.updO (some b') (((L.take (i + 1)).map dblI).map (.int .i64))) ?_ ⟨⟨i + 1, some b'⟩, by simp only; omega, by simp only; omega, ⟨by simp [hLn], z4⟩, ?_⟩
          · rw [hts]
            simp
            exact Drop.both (Drop.new (Drop.refl _) (by simp [z2]))
          · have hDli : D.length = i := by rw [hD]; simp; omega
            simp [h1, h2, h7, h8, h9, h12, h10, h13, h15, hwi, natsA, hLS]
            omega
        · have hiE : i = S := by omega
          have hfull : (L.take i) = L := by rw [hiE, ← hLS, List.take_length]
          rw [hfull] at ho1 h10
          rw [hfull]
          obtain ⟨D, hD⟩ : ∃ D, D = L.map dblI := ⟨_, rfl⟩
          have hDl : D.length = S := by rw [hD]; simp; omega
          rw [← hD] at ho1 h10
          rw [← hD]
          cases o with
          | none => have := ho1.1 rfl; rw [this] at hDl; simp at hDl; omega
          | some b =>
            have hfb : Fresh H b := ho2
            by_cases hk1 : k = 1 ∧ 0 < rank.length
            · obtain ⟨hk1, hrl0⟩ := hk1
              have hrn : ¬ rank = [] := fun e => by rw [e] at hrl0; simp at hrl0
              have hkI1 : (k : Int) = 1 := by omega
              obtain ⟨x, hx0⟩ : ∃ x, x = rank[0] := ⟨_, rfl⟩
              have hx' : rank[0]'hrl0 = x := hx0.symm
              have hu1 := uM_lt (x := x) (n := S) hsp
              obtain ⟨y, hy⟩ : ∃ y, y = uM x S := ⟨_, rfl⟩
              rw [← hy] at hu1
              have v1 : (IntKind.u64.wrap x).tmod (S : Int) = (y : Int) := by rw [hy]; exact uM_mod hsp
              have v2 : IntKind.i64.wrap (y : Int) = (y : Int) := wrap_i64 (by omega) (by omega)
              have v3 : IntKind.u64.wrap (S : Int) = (S : Int) := wrap_u64 (by omega) (by omega)
              have hS0 : ¬ S = 0 := by omega
              have hyD : y < D.length := by omega
              have hy1 : y + 1 ≤ D.length := by omega
              simp [h1, h2, h7, h8, h9, h12, h10, h13, h15, hi, intsA, hkI1, hrn, hrl0, hx', v1, v2, v3, hS0, hyD, hy1]
              refine ⟨.osl b 0 D.length 1, H.upd b (.cells ((D.map (AV.int .i64)).set y (.int .i64 (IntKind.i64.wrap (D[y] - 2))))), D.set y (IntKind.i64.wrap (D[y] - 2)), by simp; omega, by
                rw [show D.length = (D.set y (IntKind.i64.wrap (D[y] - 2))).length from by simp]
                exact own_blk (b := b) (Drop.new (Drop.refl _) hfb) (by simp) hfb (fun e => by have := congrArg List.length e; simp at this; rw [this] at hDl; simp at hDl; omega), rfl, rfl⟩
            · by_cases hkI1 : (k : Int) = 1
              · have hrl0 : ¬ 0 < rank.length := fun e => hk1 ⟨by omega, e⟩
                have hrn : rank = [] := by simpa using hrl0
                simp [h1, h2, h7, h8, h9, h12, h10, h13, h15, hi, intsA, hkI1, hrn]
                exact ⟨_, _, D, by omega, own_some ho1 ho2, by simp, by simp⟩
              · simp [h1, h2, h7, h8, h9, h12, h10, h13, h15, hi, hkI1]
                exact ⟨_, _, D, by omega, own_some ho1 ho2, by simp, by simp⟩
      · simp [h1, h2, h7, h8, h9, h10, h11, h12]
        exact ⟨_, _, A, hA, own_val, rfl, rfl⟩
    intro t hq ⟨V, HV, A2, hA2, hV, h1, h2, h7, h8, h9, h12, h10, ehq⟩
    rw [ehq]
    clear ehq
    simp [h1, h2, h7, h8, h9, h12, h10, intsA]
    refine condA_cut (fun t hq => ∃ a0 : Nat, (a0 < S) ∧ t 1 = intsA rank ∧ t 2 = intsA round ∧ t 7 = .ptr b7 0 ∧ t 8 = .ptr b8 0 ∧ t 9 = .int .i64 S ∧ t 10 = V ∧ t 12 = .int .i64 k ∧ t 17 = .int .i64 a0 ∧ hq = HV) ?_ ?_
    · refine condA_dec (fun e => ?_) fun e => ?_
      · have hrl0 : 0 < round.length := by omega
        have hrn : ¬ round = [] := fun e => by rw [e] at hrl0; simp at hrl0
        obtain ⟨x, hx0⟩ : ∃ x, x = round[0] := ⟨_, rfl⟩
        have hx' : round[0]'hrl0 = x := hx0.symm
        have hu1 := uM_lt (x := x) (n := S) hsp
        obtain ⟨y, hy⟩ : ∃ y, y = uM x S := ⟨_, rfl⟩
        rw [← hy] at hu1
        have v1 : (IntKind.u64.wrap x).tmod (S : Int) = (y : Int) := by rw [hy]; exact uM_mod hsp
        have v2 : IntKind.i64.wrap (y : Int) = (y : Int) := wrap_i64 (by omega) (by omega)
        have v3 : IntKind.u64.wrap (S : Int) = (S : Int) := wrap_u64 (by omega) (by omega)
        have hS0 : ¬ S = 0 := by omega
        simp [h1, h2, h7, h8, h9, h12, h10, intsA, hrn, hrl0, hx', v1, v2, v3, hS0]
        exact ⟨y, hu1, rfl⟩
      · simp [h1, h2, h7, h8, h9, h12, h10, intsA]
        exact ⟨0, hsp, rfl⟩
    intro t hq ⟨a0, ha0, h1, h2, h7, h8, h9, h10, h12, h17, ehq⟩
    rw [ehq]
    clear ehq
    simp [h1, h2, h7, h8, h9, h10, h12, h17]
    refine awp_loop_g (γ := PS) (fun p t h => (A2.length ≤ 1000000) ∧ (p.a < S) ∧ (PInv H p) ∧ t 1 = intsA rank ∧ t 2 = intsA round ∧ t 7 = .ptr b7 0 ∧ t 8 = .ptr b8 0 ∧ t 9 = .int .i64 S ∧ t 12 = .int .i64 k ∧ t 10 = listI A2 ∧ t 11 = p.V ∧ t 17 = .int .i64 p.a ∧ t 18 = .int .i64 p.i ∧ h = p.HV) (fun p => 41 - p.i) (⟨0, a0, .nilsl, H, []⟩) (turnA_own 10 (by simp [h1, h2, h7, h8, h9, h10, h12, h17]) hV (by simp [h1, h2, h7, h8, h9, h10, h12, h17, intsA]; exact ⟨hA2, ha0, .inl ⟨by show (0 : Nat) ≤ 40; omega, none, rfl, rfl, by simp, trivial, by simp⟩⟩)) ?_
    rintro p t hx ⟨hA3, hpa, hpI, h1, h2, h7, h8, h9, h12, h10, h11, h17, h18, ex⟩
    rw [ex]
    clear ex
    obtain ⟨i, a, V11, H11, BB⟩ := p
    simp only at h1 h2 h7 h8 h9 h12 h10 h11 h17 h18 hpa ⊢
    have hown := hpI.own
    simp only at hown
    by_cases hi40 : i < 40
    · have hiI : (i : Int) < 40 := by omega
      have hwi : IntKind.i64.wrap ((i : Int) + 1) = (i : Int) + 1 := wrap_i64 (by omega) (by omega)
      rcases hpI with ⟨_, o, z1, z2, ho1, ho2, hBl⟩ | ⟨z1, _⟩
      rotate_left
      · simp only at z1; omega
      simp only at z1 z2 ho1 hBl
      subst z1 z2
      have cx := r_Next r hr a (by omega) false
      rw [hav, show moveL r a false = succF r a from rfl] at cx
      obtain ⟨M, hM⟩ : ∃ M, M = succF r a := ⟨_, rfl⟩
      have hMl : M.length ≤ 6 := by rw [hM]; simp [succF]; have := readyF_len0 r (ofF r.c r.m a); omega
      have hMs : ∀ t ∈ M, t < S := by rw [hM, hS]; exact succF_lt hr a
      rw [← hM] at cx
      simp [h1, h2, h7, h8, h9, h12, h10, h11, h17, h18, hiI]
      intro b1 hb1
      simp at hb1
      obtain ⟨z1, z2⟩ : ¬ o = some b1 ∧ Fresh H b1 := hb1
      simp [h1, h2, h7, h8, h9, h12, h10, h11, h17, h18, z1, z2]
      refine appendA_updO (by omega) (by omega) (by simpa using ho1.1) (by simp) (by simp) (by simp [z1, z2, ho2]) fun b' hb' => ?_
      obtain ⟨z3, z3', z4⟩ : ¬ b' = b1 ∧ ¬ b1 = b' ∧ Fresh H b' := by simpa [z1, z2] using hb'
      have n7 := ne_fresh (e7 0) z4
      have n7' := ne_fresh (e7 0) z2
      simp [h1, h2, h7, h8, h9, h12, h10, h11, h17, h18, e7, e8, z1, z2, z3, z3', z4, n7, n7']
      refine cx.use ?_
      simp [h1, h2, h7, h8, h9, h12, h10, h11, h17, h18, -lenA, lenA_listA]
      obtain ⟨H2, hH2⟩ : ∃ H2, H2 = (H.upd b1 (.cells [.int .i64 a])).upd b' (.cells (BB.map (.int .i64) ++ [.int .i64 a])) := ⟨_, rfl⟩
      have hd2 : Drop H2 H := by rw [hH2]; exact Drop.new (Drop.new (Drop.refl _) z2) z4
      have hc2 : cellsAt H2 b' 0 = some ((BB ++ [(a : Int)]).map (.int .i64)) := by rw [hH2]; simp
      have hBn : BB ++ [(a : Int)] ≠ [] := by simp
      have hown2 : Own H (.osl b' 0 (BB.length + 1) 1) H2 (BB ++ [(a : Int)]) := by
        have := own_blk hd2 hc2 z4 hBn
        rw [show (BB ++ [(a : Int)]).length = BB.length + 1 from by simp] at this
        exact this
      have e7' : ∀ off, cellsAt H2 b7 off = some (([.int .i64 r.m, .int .i64 r.c, rowsA r.next] : List AV).drop off) := by intro off; rw [hH2]; simp [n7, n7', e7]
      rw [← hH2]
      refine condA_dec (fun e => ?_) fun e => ?_
      · simp [h1, h2, h7, h8, h9, h12, h10, h11, h17, h18]
        refine turnA_own 11 (V := .osl b' 0 (BB.length + 1) 1) (by simp [h1, h2, h7, h8, h9, h12, h10, h11, h17, h18]) hown2 ⟨⟨k + 1, A2, BB ++ [(a : Int)]⟩, by simp only; omega, by simp only; omega, hA3, by simp; omega, by simp [h1, h2, h7, h8, h9, h12, h10, h11, h17, h18, hwk, intsA]⟩
      · have hMp : 0 < M.length := List.length_pos_iff.2 e
        have hla : listA M = .sl M.length (M.map fun x : Nat => AV.int .i64 (x : Int)) := by unfold listA; rw [if_neg e]; rfl
        simp [h1, h2, h7, h8, h9, h12, h10, h11, h17, h18, intsA]
        refine condA_cut (fun t hq => ∃ pk : Nat, (pk ≤ 1000) ∧ t 1 = intsA rank ∧ t 2 = intsA round ∧ t 7 = .ptr b7 0 ∧ t 8 = .ptr b8 0 ∧ t 9 = .int .i64 S ∧ t 10 = listI A2 ∧ t 12 = .int .i64 k ∧ t 18 = .int .i64 i ∧ t 11 = .osl b' 0 (BB.length + 1) 1 ∧ t 19 = listA M ∧ t 20 = .int .i64 pk ∧ hq = H2) ?_ ?_
        · refine condA_dec (fun hir => ?_) fun hir => ?_
          · have hirn : i < round.length := by omega
            obtain ⟨x, hx0⟩ : ∃ x, x = round[i] := ⟨_, rfl⟩
            have hx' : round[i]'hirn = x := hx0.symm
            have hu1 := uM_lt (x := x) (n := 1000) (by omega)
            obtain ⟨y, hy⟩ : ∃ y, y = uM x 1000 := ⟨_, rfl⟩
            rw [← hy] at hu1
            have v1 : (IntKind.u64.wrap x).tmod 1000 = (y : Int) := by rw [hy]; exact uM_mod (n := 1000) (by omega)
            have v2 : IntKind.i64.wrap (y : Int) = (y : Int) := wrap_i64 (by omega) (by omega)
            simp [h1, h2, h7, h8, h9, h12, h10, h11, h17, h18, intsA, hirn, hx', v1, v2]
            exact ⟨y, by omega, rfl⟩
          · simp [h1, h2, h7, h8, h9, h12, h10, h11, h17, h18, intsA]
            exact ⟨i, by omega, rfl⟩
        intro t hq ⟨pk, hpk, h1, h2, h7, h8, h9, h10, h12, h18, h11, h19, h20, ehq⟩
        rw [ehq]
        clear ehq
        obtain ⟨m, hm⟩ : ∃ m, m = pk % M.length := ⟨_, rfl⟩
        have hmM : m < M.length := by rw [hm]; exact Nat.mod_lt _ hMp
        have vm : (pk : Int).tmod (M.length : Int) = (m : Int) := by rw [Int.tmod_eq_emod_of_nonneg (by omega), hm]; rfl
        have hM0 : ¬ M.length = 0 := by omega
        obtain ⟨a1, ha1⟩ : ∃ a1, a1 = M[m] := ⟨_, rfl⟩
        have ha1' : M[m]'hmM = a1 := ha1.symm
        have ha1s : a1 < S := hMs a1 (by rw [ha1]; exact List.getElem_mem hmM)
        simp [h1, h2, h7, h8, h9, h10, h12, h18, h11, h19, h20, hla, e, hM0, hmM, vm, ha1']
        refine awp_loop_g (γ := Nat) (fun j t h => (j ≤ BB.length + 1) ∧ t 1 = intsA rank ∧ t 2 = intsA round ∧ t 7 = .ptr b7 0 ∧ t 8 = .ptr b8 0 ∧ t 9 = .int .i64 S ∧ t 10 = listI A2 ∧ t 11 = .osl b' 0 (BB.length + 1) 1 ∧ t 12 = .int .i64 k ∧ t 18 = .int .i64 i ∧ t 17 = .int .i64 a1 ∧ t 21 = .int .i64 j ∧ h = H2) (fun j => BB.length + 1 - j) (0) (turnA_self (by simp [h1, h2, h7, h8, h9, h10, h12, h18, h11, h19, h20, intsA])) ?_
        rintro j t hx ⟨hj, h1, h2, h7, h8, h9, h10, h11, h12, h18, h17, h21, ex⟩
        rw [ex]
        clear ex
        by_cases hjl : j < BB.length + 1
        · have hjI : (j : Int) < (BB.length : Int) + 1 := by omega
          have hwj : IntKind.i64.wrap ((j : Int) + 1) = (j : Int) + 1 := wrap_i64 (by omega) (by omega)
          obtain ⟨BL, hBL⟩ : ∃ BL, BL = BB ++ [(a : Int)] := ⟨_, rfl⟩
          have hBLl : BL.length = BB.length + 1 := by rw [hBL]; simp
          rw [← hBL] at hc2
          have hjB : j < BL.length := by omega
          have hc3 : ∀ off, cellsAt H2 b' off = some ((BL.map (.int .i64)).drop off) := by intro off; rw [hH2, hBL]; simp
          simp [h1, h2, h7, h8, h9, h10, h11, h12, h18, h17, h21, hjl, hjI, hc3, hjB]
          refine condA_dec (fun e2 => ?_) fun e2 => ?_
          · simp [h1, h2, h7, h8, h9, h10, h11, h12, h18, h17, h21, hjl, hjI, hc3, hjB]
            refine ⟨fun _ => ?_, by omega⟩
            have hdn : BL.drop j ≠ [] := fun e => by have := congrArg List.length e; simp at this; omega
            have hdl : (BL.drop j).length = BL.length - j := by simp
            have hown3 : Own H (.osl b' j (BL.drop j).length 1) H2 (BL.drop j) := ⟨hd2, .inr ⟨b', j, BL, rfl, hc2, z4, rfl, hdn⟩⟩
            refine turnA_own 11 (V := .osl b' j (BL.drop j).length 1) ?_ hown3 ⟨⟨41, a1, listI (BL.drop j), H, BL.drop j⟩, by simp only; omega, hA3, ha1s, .inr ⟨rfl, rfl, rfl, by simp only; omega⟩, by simp [h1, h2, h7, h8, h9, h10, h11, h12, h18, h17, h21, intsA]; rfl⟩
            simp [hdl, hBLl]
          · simp [h1, h2, h7, h8, h9, h10, h11, h12, h18, h17, h21]
            exact turnA_self ⟨j + 1, by omega, by omega, by simp [h1, h2, h7, h8, h9, h10, h11, h12, h18, h17, h21, hwj, intsA]⟩
        · have hjE : j = BB.length + 1 := by omega
          have hjI : ¬ (j : Int) < (BB.length : Int) + 1 := by omega
          simp [h1, h2, h7, h8, h9, h10, h11, h12, h18, h17, h21, hjl, hjI]
          refine turnA_to (H.updO (some b') ((BB ++ [(a : Int)]).map (.int .i64))) ?_ ⟨⟨i + 1, a1, .osl b' 0 (BB.length + 1) 1, H.updO (some b') ((BB ++ [(a : Int)]).map (.int .i64)), BB ++ [(a : Int)]⟩, by simp only; omega, hA3, ha1s, .inl ⟨by simp only; omega, some b', by simp, rfl, by simp, z4, by simp; omega⟩, by simp [h1, h2, h7, h8, h9, h10, h11, h12, h18, h17, h21, hwi, intsA]⟩
          rw [hH2]
          simp
          exact Drop.both (Drop.new (Drop.refl _) z2)
    · have hiI : ¬ (i : Int) < 40 := by omega
      simp [h1, h2, h7, h8, h9, h12, h10, h11, h17, h18, hiI]
      refine turnA_own 11 (by simp [h1, h2, h7, h8, h9, h12, h10, h11, h17, h18]) hown.1 ⟨⟨k + 1, A2, BB⟩, by simp only; omega, by simp only; omega, hA3, by simp only; omega, by simp [h1, h2, h7, h8, h9, h12, h10, h11, h17, h18, hwk, intsA]⟩
  · have hke : k = 3 := by omega
    have hkI : ¬ (k : Int) < 3 := by omega
    simp [h1, h2, h7, h8, h9, h10, h11, h12, hkI]
    refine caw.use ?_
    simp
    exact finA_drop rfl
end Go.Proofs
 
