/-
  Walk: the least machine, as a whole.
-/
import Derived.Test.YtobhipohnjmnhaaWdLst
set_option linter.unusedSimpArgs false
set_option linter.unusedVariables false
set_option linter.unusedSectionVars false
namespace Go.Proofs
open Go Go.AH
set_option maxRecDepth 10000
set_option maxHeartbeats 4000000
set_option linter.unusedSectionVars false

/-- What least makes of a machine: classes that no more letter parts; those that are reached. -/
def LstOut (m M : Dfa) : Prop := ∃ J F keys rows, (∀ j, j < J → (refI m (j + 1)).2 ≠ (refI m j).2) ∧ (refI m (J + 1)).2 = (refI m J).2 ∧
  rIter (stepC m (refI m J).1 (someF m (refI m J).1 (refI m J).2 m.next.length)) (-1) m.k ((refI m J).1.getD 0 0) F = some (keys, rows) ∧ keys.length = F ∧
  (∀ a st, a < F → rIter (stepC m (refI m J).1 (someF m (refI m J).1 (refI m J).2 m.next.length)) (-1) m.k ((refI m J).1.getD 0 0) a = some st → a < st.1.length) ∧
  M = ⟨m.k, rows, keys.map fun x => m.good.getD ((someF m (refI m J).1 (refI m J).2 m.next.length).getD x 0) false⟩
theorem LstOut.unique {m M M' : Dfa} (a : LstOut m M) (b : LstOut m M') : M = M' := by
  obtain ⟨J, F, keys, rows, a1, a2, a3, a4, a5, rfl⟩ := a
  obtain ⟨J', F', keys', rows', b1, b2, b3, b4, b5, rfl⟩ := b
  obtain rfl : J = J' := by
    rcases Nat.lt_trichotomy J J' with h | h | h
    · exact absurd a2 (b1 J h)
    · exact h
    · exact absurd b2 (a1 J' h)
  obtain rfl : F = F' := by
    rcases Nat.lt_trichotomy F F' with h | h | h
    · have := b5 F _ h a3; simp only at this; omega
    · exact h
    · have := a5 F' _ h b3; simp only at this; omega
  rw [a3] at b3
  cases b3
  rfl
open Classical in
noncomputable def leastF (m : Dfa) : Dfa := if h : ∃ M, LstOut m M then Classical.choose h else m
theorem leastF_eq {m M : Dfa} (a : LstOut m M) : leastF m = M := by
  have h : ∃ M, LstOut m M := ⟨M, a⟩
  unfold leastF
  rw [dif_pos h]
  exact (Classical.choose_spec h).unique a

theorem w_least (m : Dfa) (hm : m.wf) (H : AHeap) : ACalls Try.prog 67 [m.av] H fun r h' => r = (leastF m).av ∧ LstOut m (leastF m) ∧ h' = H := by
  have goalM : ∀ (r : AV) (M : Dfa), r = M.av → LstOut m M → r = (leastF m).av ∧ LstOut m (leastF m) := fun r M e l => by rw [leastF_eq l]; exact ⟨e, l⟩
  refine acalls_of Try.func67 rfl Try.call67 (by kernel_rfl) (by show _ ≤ (87 : Nat); simp) ?_
  have hn1 := hm.n1
  have hnm := hm.nmax
  simp [Dfa.av]
  intro b1 hb1
  simp
  intro b2 hb2
  simp at hb2
  simp [hb2, nrowsA]
  have c1 := w_classedB m.next.length hm.n1 hm.nmax (.fn (.func 114) [] [.ptr b1 0]) (fun s => m.good.getD s false) ((H.upd b1 (.cells [.int .i64 m.k, .sl m.next.length (m.next.map natsA), boolsA m.good])).upd b2 (.cells [.int .i64 0, .nilsl, .nilsl]))
    (fun s hs => w_least1 m hm _ b1 (by intro off; simp [hb2, nrowsA]) s hs)
  refine ACalls.mono c1 ?_
  rintro r h' ⟨rfl, rfl⟩
  simp
  intro b3 hb3
  simp at hb3
  simp [hb3, hb2]
  refine awp_loop_g (γ := Nat) (fun j t h => (∀ i, i < j → (refI m (i + 1)).2 ≠ (refI m i).2) ∧ t 1 = .ptr b1 0 ∧ t 2 = .ptr b2 0 ∧ t 3 = .ptr b3 0 ∧ t 4 = .int .i64 (refI m j).2 ∧ h = ((H.upd b1 (.cells [.int .i64 m.k, .sl m.next.length (m.next.map natsA), boolsA m.good])).upd b2 (.cells [.int .i64 0, .nilsl, .nilsl])).upd b3 (.cells [natsA (refI m j).1])) (fun j => m.next.length - (refI m j).2) (0) (turnA_self (by simp [refI, cls0, many0, hb3, hb2])) ?_
  rintro j t h ⟨hj, h1, h2, h3, h4, rfl⟩
  simp [h1, h2, h3, h4, hb3, hb2]
  have c2 := w_classedS m.next.length hm.n1 hm.nmax (.fn (.func 116) [] [.ptr b3 0, .ptr b1 0]) (sgnF m (refI m j).1) (fun s _ => sgn_len _ _ _) (((H.upd b1 (.cells [.int .i64 m.k, .sl m.next.length (m.next.map natsA), boolsA m.good])).upd b2 (.cells [.int .i64 0, .nilsl, .nilsl])).upd b3 (.cells [natsA (refI m j).1]))
    (fun s hs => w_least2 m hm _ b3 b1 _ (refI_len m j) (by simp) (by intro off; simp [hb2, hb3, nrowsA]) s hs)
  refine ACalls.mono c2 ?_
  rintro r h' ⟨rfl, rfl⟩
  have hnext : (refI m (j + 1)) = (clsF (sgnF m (refI m j).1) m.next.length, (ddF (sgnF m (refI m j).1) m.next.length).length) := rfl
  have hmono := refI_mono m j
  have hle1 := refI_le m (j + 1)
  by_cases heq : (refI m (j + 1)).2 = (refI m j).2
  · have heq' : ((ddF (sgnF m (refI m j).1) m.next.length).length : Int) = (refI m j).2 := congrArg _ heq
    simp [h1, h2, h3, h4, heq', hb3, hb2]
    refine ⟨by omega, fun b7' hb7 => ?_⟩
    simp at hb7
    simp [h1, h2, h3, h4, hb3, hb2, hb7]
    intro b7 hb7c
    simp at hb7c
    simp [h1, h2, h3, h4, hb3, hb2, hb7, hb7c]
    obtain ⟨c, hc⟩ : ∃ c, c = (refI m j).1 := ⟨_, rfl⟩
    obtain ⟨many, hmany⟩ : ∃ many, many = (refI m j).2 := ⟨_, rfl⟩
    have hcl : c.length = m.next.length := by rw [hc]; exact refI_len m j
    have hclt : ∀ s, s < m.next.length → c.getD s 0 < many := fun s hs => by rw [hc, hmany]; exact refI_lt m j s hs
    rw [← hc, ← hmany]
    simp [h1, h2, h3, h4, hb3, hb2, hb7, hb7c, natsA, hcl]
    refine awp_loop_g (γ := Nat) (fun s t h => (s ≤ m.next.length) ∧ t 1 = .ptr b1 0 ∧ t 2 = .ptr b2 0 ∧ t 3 = .ptr b3 0 ∧ t 7 = .ptr b7 0 ∧ t 39 = .sl m.next.length (c.map fun x : Nat => AV.int .i64 (x : Int)) ∧ t 40 = .int .i64 m.next.length ∧ t 41 = .int .i64 s ∧ h = ((((H.upd b1 (.cells [.int .i64 m.k, .sl m.next.length (m.next.map natsA), boolsA m.good])).upd b2 (.cells [.int .i64 0, .nilsl, .nilsl])).upd b3 (.cells [.sl m.next.length (c.map fun x : Nat => AV.int .i64 (x : Int))])).upd b7' (.cells ((someF m c many s).map fun x : Nat => AV.int .i64 (x : Int)))).upd b7 (.cells [.osl b7' 0 many 1])) (fun s => m.next.length - s) (0) (turnA_self (by simp [h1, h2, h3, h4, someF])) ?_
    rintro s t h ⟨hs, h1, h2, h3, h7, h39, h40, h41, rfl⟩
    have hsml := someF_len m c many s
    by_cases hlt : s < m.next.length
    · have hsc : s < c.length := by omega
      have hcs := hclt s hlt
      have hcs' : c.getD s 0 = c[s] := by simp [hsc]
      rw [hcs'] at hcs
      have hsucc := someF_succ m c many s
      rw [hcs'] at hsucc
      have hw : IntKind.i64.wrap ((s : Int) + 1) = (s : Int) + 1 := wrap_i64 (by omega) (by omega)
      simp [h1, h2, h3, h7, h39, h40, h41, hlt, hsc, hb3, hb2, hb7, hb7c, hcs, hsml]
      exact ⟨by omega, turnA_self ⟨s + 1, by omega, by omega, by simp [h1, h2, h3, h7, h39, h40, h41, hw, hsucc, List.map_set, hsml, hcs]⟩⟩
    · obtain rfl : s = m.next.length := by omega
      obtain ⟨sm, hsm⟩ : ∃ sm, sm = someF m c many m.next.length := ⟨_, rfl⟩
      have hsmlt : ∀ x ∈ sm, x < m.next.length := by rw [hsm]; exact someF_lt m c many _ _ (Nat.le_refl _) hn1
      rw [← hsm] at hsml
      have h0 : 0 < c.length := by omega
      have h0' : 0 < m.next.length := by omega
      have hc0 : c.getD 0 0 = c[0] := by simp [h0]
      have hInv0 : c[0] < many := by rw [← hc0]; exact hclt 0 h0'
      have hInvS : ∀ x i, x < many → i < m.k → stepC m c sm x i < many := by
        intro x i hx hi
        have h1 : x < sm.length := by omega
        have h2 := hsmlt _ (List.getElem_mem h1)
        have h3 : i < m.next[sm[x]].length := by rw [hm.rl _ (List.getElem_mem h2)]; exact hi
        have h4 := hm.lt _ (List.getElem_mem h2) _ (List.getElem_mem h3)
        have : stepC m c sm x i = c.getD m.next[sm[x]][i] 0 := by simp [stepC, h1, h2, h3]
        rw [this]
        exact hclt _ h4
      obtain ⟨F, F1, F2, F3, F4⟩ := rIter_end (stepC m c sm) (-1) m.k c[0] many (fun a st e => by
        obtain ⟨q1, q2⟩ := rIter_inv (stepC m c sm) (-1) (· < many) m.k hInvS c[0] hInv0 a st e
        exact nodup_lt many st.1 q1 q2)
      have hml : many ≤ m.next.length := by rw [hmany]; exact refI_le m j
      obtain ⟨⟨keys, rows⟩, hkr⟩ := rIter_neg (stepC m c sm) m.k c[0] F
      have hkl := F4 _ hkr
      simp only at hkl
      have hkeys := rIter_inv (stepC m c sm) (-1) (· < many) m.k hInvS c[0] hInv0 F _ hkr
      simp [h1, h2, h3, h7, h39, h40, h41, ← hsm]
      refine awp_draw_text (by kernel_rfl) [] [] (by kernel_rfl) (by kernel_rfl) (by simp) ?_
      simp [h1, h2, h3, h7, h39, h40, h41, hb3, hb2, hb7, hb7c, h0, h0', hcl]
      have c3 := w_reachedI c[0] m.k hm.k4 hm.k1 (-1) (.fn (.func 118) [] [.ptr b3 0, .ptr b1 0, .ptr b7 0]) (stepC m c sm) (· < many) hInv0 hInvS (((((H.upd b1 (.cells [.int .i64 m.k, .sl m.next.length (m.next.map natsA), boolsA m.good])).upd b2 (.cells [.int .i64 0, .nilsl, .nilsl])).upd b3 (.cells [.sl m.next.length (c.map fun x : Nat => AV.int .i64 (x : Int))])).upd b7' (.cells (sm.map fun x : Nat => AV.int .i64 (x : Int)))).upd b7 (.cells [.osl b7' 0 many 1]))
        (fun x i hx hi => w_least3 m hm _ b3 b1 b7 b7' c sm hcl hsmlt (by simp [hb7, hb7c, natsA, hcl]) (by intro off; simp [hb2, hb3, hb7, hb7c, nrowsA]) (by simp [hsml]) (by intro off; simp [hb7c]) x (by omega) i hi) F (by omega) F2 F3 F4
      rw [hkr] at c3
      refine ACalls.mono c3 ?_
      rintro r h' ⟨rfl, rfl⟩
      simp [h1, h2, h3, h7, h39, h40, h41, rchA, hb3, hb2, hb7, hb7c, nrowsA]
      intro b13 hb13
      simp at hb13
      obtain ⟨HB, hHB⟩ : ∃ HB, HB = (((((H.upd b1 (.cells [.int .i64 m.k, .sl m.next.length (m.next.map natsA), boolsA m.good])).upd b2 (.cells [.int .i64 0, .nilsl, .nilsl])).upd b3 (.cells [.sl m.next.length (c.map fun x : Nat => AV.int .i64 (x : Int))])).upd b7' (.cells (sm.map fun x : Nat => AV.int .i64 (x : Int)))).upd b7 (.cells [.osl b7' 0 many 1])) := ⟨_, rfl⟩
      have hB1 : ∀ off, cellsAt HB b1 off = some (([.int .i64 (m.k : Int), .sl m.next.length (m.next.map natsA), boolsA m.good] : List AV).drop off) := by intro off; rw [hHB]; simp [hb2, hb3, hb7, hb7c]
      have hB2 : cellsAt HB b2 0 = some [.int .i64 0, .nilsl, .nilsl] := by rw [hHB]; simp [hb2, hb3, hb7, hb7c]
      have hB7 : cellsAt HB b7 0 = some [.osl b7' 0 many 1] := by rw [hHB]; simp [hb2, hb3, hb7, hb7c]
      have hB7' : ∀ off, cellsAt HB b7' off = some ((sm.map fun x : Nat => AV.int .i64 (x : Int)).drop off) := by intro off; rw [hHB]; simp [hb2, hb3, hb7, hb7c]
      have hBd : Drop HB H := by
        rw [hHB]
        exact ((((((Drop.refl H).new hb1).new hb2.2.2).new hb3.2.2.2.2).new hb7.2.2.2.2.2.2).new hb7c.2.2.2.2.2.2.2.2)
      have hF13 : Fresh HB b13 := by rw [hHB]; simp [hb13]
      rw [← hHB]
      have m1 := ne_fresh (hB1 0) hF13; have m2 := ne_fresh hB2 hF13; have m7 := ne_fresh hB7 hF13; have m7' := ne_fresh (hB7' 0) hF13
      clear c1 c2 c3
      simp [h1, h2, h3, h7, h39, h40, h41, hB1, natsA, hkl]
      refine awp_loop_g (γ := Nat × Option Nat) (fun g t h => (g.1 ≤ F) ∧ ((g.2 = none → g.1 = 0) ∧ ∀ b, g.2 = some b → Fresh HB b ∧ ¬ b = b13 ∧ ¬ b13 = b) ∧ t 1 = .ptr b1 0 ∧ t 2 = .ptr b2 0 ∧ t 7 = .ptr b7 0 ∧ t 13 = .ptr b13 0 ∧ t 66 = .sl F (keys.map fun x : Nat => AV.int .i64 (x : Int)) ∧ t 67 = .int .i64 F ∧ t 68 = .int .i64 g.1 ∧ h = (HB.upd b13 (.cells [.int .i64 m.k, .sl rows.length (rows.map natsA), ownV g.2 g.1 1])).updO g.2 (((keys.take g.1).map fun x => m.good.getD (sm.getD x 0) false).map .bool)) (fun g => F - g.1) ((0, none)) (turnA_self (by simp [h1, h2, h3, h7, h39, h40, h41, hkl])) ?_
      rintro g t h ⟨hi, ho, h1, h2, h7, h13, h66, h67, h68, rfl⟩
      obtain ⟨i, o⟩ := g
      simp only at h1 h2 h7 h13 h66 h67 h68 hi ho
      by_cases hlti : i < F
      · have hik : i < keys.length := by omega
        have hx := hkeys.2 _ (List.getElem_mem hik)
        have hxs : keys[i] < sm.length := by omega
        have hxm := hsmlt _ (List.getElem_mem hxs)
        have hxg : sm[keys[i]] < m.good.length := by rw [hm.gl]; exact hxm
        have hval : m.good.getD (sm.getD keys[i] 0) false = m.good[sm[keys[i]]] := by simp [hxs, hxg]
        have htake : keys.take (i + 1) = keys.take i ++ [keys[i]] := by rw [List.take_append_getElem]
        have hw : IntKind.i64.wrap ((i : Int) + 1) = (i : Int) + 1 := wrap_i64 (by omega) (by omega)
        simp [h1, h2, h7, h13, h66, h67, h68, hlti, hik]
        refine awp_draw_text (by kernel_rfl) [] [] (by kernel_rfl) (by kernel_rfl) (by simp) ?_
        rcases o with _ | b
        · obtain rfl : i = 0 := ho.1 rfl
          simp [h1, h2, h7, h13, h66, h67, h68, hB1, hB7, hB7', m1, m2, m7, m7', hxs, boolsA, hxg, hx]
          intro b16 hb16
          simp at hb16
          simp [h1, h2, h7, h13, h66, h67, h68, hB1, hB7, hB7', m1, m2, m7, m7', hb16]
          intro b17 hb17
          simp at hb17
          simp [h1, h2, h7, h13, h66, h67, h68, hB1, hB7, hB7', m1, m2, m7, m7', hb16, hb17, hw]
          refine turnA_to ((HB.upd b13 (.cells [.int .i64 m.k, .sl rows.length (rows.map natsA), .osl b17 0 1 1])).upd b17 (.cells (((keys.take 1).map fun x => m.good.getD (sm.getD x 0) false).map .bool))) ?_ ⟨1, by omega, by omega, some b17, by simp [h1, h2, h7, h13, h66, h67, h68, hb17]⟩
          simp only [Nat.zero_add] at htake
          rw [htake]
          simp [hval, hxs, hxg]
          refine Drop.both (Drop.new (Drop.refl _) ?_)
          simp [hb16]
        · have ho1 := ho.2 b rfl
          have n1 := ne_fresh (hB1 0) ho1.1; have n2 := ne_fresh hB2 ho1.1; have n7 := ne_fresh hB7 ho1.1; have n7' := ne_fresh (hB7' 0) ho1.1
          have hlen : min i keys.length = i := by omega
          simp [h1, h2, h7, h13, h66, h67, h68, hB1, hB7, hB7', m1, m2, m7, m7', hxs, boolsA, hxg, hx, ho1, n1, n2, n7, n7']
          intro b16 hb16
          simp at hb16
          simp [h1, h2, h7, h13, h66, h67, h68, hB1, hB7, hB7', m1, m2, m7, m7', hb16, ho1, hlen]
          refine ⟨by omega, ?_⟩
          intro b17 hb17
          simp at hb17
          simp [h1, h2, h7, h13, h66, h67, h68, hB1, hB7, hB7', m1, m2, m7, m7', hb16, hb17, hw, ho1]
          refine turnA_to ((HB.upd b13 (.cells [.int .i64 m.k, .sl rows.length (rows.map natsA), .osl b17 0 (i + 1) 1])).upd b17 (.cells (((keys.take (i + 1)).map fun x => m.good.getD (sm.getD x 0) false).map .bool))) ?_ ⟨i + 1, by omega, by omega, some b17, by simp [h1, h2, h7, h13, h66, h67, h68, hb17]⟩
          rw [show (((keys.take (i + 1)).map fun x => m.good.getD (sm.getD x 0) false).map AV.bool) = ((keys.take i).map fun x => m.good.getD (sm.getD x 0) false).map AV.bool ++ [AV.bool (m.good.getD (sm.getD keys[i] 0) false)] from by rw [htake, List.map_append, List.map_append]; rfl]
          simp [hxs, hxg]
          refine Drop.both (Drop.new (Drop.refl _) ?_)
          simp [hb16]
      · obtain rfl : i = F := by omega
        rcases o with _ | b
        · have := ho.1 rfl; omega
        have ho1 := ho.2 b rfl
        have n1 := ne_fresh (hB1 0) ho1.1; have n2 := ne_fresh hB2 ho1.1
        simp [h1, h2, h7, h13, h66, h67, h68, hB1, hB2, m1, m2, ho1, n1, n2]
        have hbd := (((hBd.new (c := .cells [.int .i64 m.k, .sl rows.length (rows.map natsA), .osl b 0 i 1]) (hBd.fresh hF13)).new (b := b) (c := .cells (List.take i (List.map (AV.bool ∘ fun x => m.good[sm[x]?.getD 0]?.getD false) keys))) (hBd.fresh ho1.1)).new (b := b2) (c := .cells [.int .i64 m.k, .sl rows.length (rows.map natsA), .osl b 0 i 1]) hb2.2.2)
        refine finA_to 2 H hbd ?_
        have hr := goalM ((Dfa.mk m.k rows (keys.map fun x => m.good.getD (sm.getD x 0) false)).av) _ rfl ⟨j, i, keys, rows, hj, heq, by rw [← hc, ← hmany, ← hsm, hc0]; exact hkr, hkl, by rw [← hc, ← hmany, ← hsm, hc0]; exact F3, by rw [← hc, ← hmany, ← hsm]⟩
        refine ⟨?_, hr.2, rfl⟩
        rw [← hr.1]
        simp [Dfa.av, nrowsA, boolsA, hBd.fresh ho1.1, ho1, n2, hkl, List.take_of_length_le]
  · have heq' : ¬ ((ddF (sgnF m (refI m j).1) m.next.length).length : Int) = (refI m j).2 := fun e => heq (Int.ofNat.inj e)
    simp [h1, h2, h3, h4, heq', hb3, hb2]
    exact turnA_self ⟨j + 1, by rw [hnext] at hmono hle1 heq ⊢; simp only at hmono hle1 heq ⊢; omega, fun i hi => by
      by_cases e : i = j
      · subst e; exact heq
      · exact hj i (by omega), by simp [h1, h2, h3, h4, hnext]⟩
end Go.Proofs
