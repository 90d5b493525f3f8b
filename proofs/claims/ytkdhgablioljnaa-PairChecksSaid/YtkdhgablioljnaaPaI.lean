/-
  Pair: a new finder.
-/
import Derived.Test.YtkdhgablioljnaaPaH
set_option linter.unusedSimpArgs false
set_option linter.unusedVariables false
set_option linter.unusedSectionVars false
namespace Go.Proofs
open Go Go.AH
set_option maxRecDepth 10000
set_option maxHeartbeats 4000000

def growN (rb : Nat → Option Nat) (w : Int) (l : List Ed) (p : Nat) : AV := ownV (rb p) (nbr w l p).length 1
structure NJ (n w : Int) (V : AV) (W b2 : Nat) (l : List Ed) (mate : Nat → Int) (rb : Nat → Option Nat) (h : AHeap) : Prop where
  c2 : h b2 = some (.cells [.int .i64 n, V])
  cW : h W = some (.cells (fC n (growN rb w l) mate (fun _ => 0) (fun _ => 0) (fun _ => false) .nilsl))
  nil : ∀ p, rb p = none ↔ nbr w l p = []
  row : ∀ p q, rb p = some q → h q = some (.cells (intC (nbr w l p))) ∧ q ≠ W ∧ q ≠ b2
  inj : ∀ p p' q, rb p = some q → rb p' = some q → p = p'
theorem mem_blkS_ownV {o : Option Nat} {n es b : Nat} : b ∈ blkS (ownV o n es) ↔ o = some b := by
  cases o with
  | none => simp [blkS]
  | some x => simp [blkS, eq_comm]
theorem w_newFinder (n : Int) (l : List Ed) (w : Int) (hc : chkG n l = 0) :
    ACalls Try.prog 66 [gV n l, .int .i64 w] AHeap.empty fun r h' => ∃ W, r = .ptr W 0 ∧ h' = AHeap.empty.upd W (.cells (fC n (fun p => intL (nbr w l p)) (fun _ => -1) (fun _ => 0) (fun _ => 0) (fun _ => false) .nilsl)) := by
  refine acalls_of Try.func66 rfl Try.call66 (by kernel_rfl) (by show _ ≤ (75 : Nat); simp) ?_
  obtain ⟨k1, k2, k3, g⟩ := chk_zero hc
  obtain ⟨V, hV⟩ : ∃ V, V = edL l := ⟨_, rfl⟩
  have hV1 : V.one = true := by rw [hV]; simp
  have hV2 : V.fit = true := by rw [hV]; simp
  have hV3 : V.cells = [V] := by rw [hV]; simp
  have hlen : ∀ h : AHeap, lenA Try.prog h 42 V = some (.int .i64 (l.length : Int)) := fun h => by rw [hV]; exact lenA_edL l
  rw [show gV n l = .agg [.int .i64 n, V] from by rw [hV]; rfl]
  simp [hV1, hV2, hV3]
  intro b2 hb2
  simp [-Try.zeroT112, zeroF]
  intro W hW
  simp at hW
  have nW2 : ¬ b2 = W := fun q => hW.1 q.symm
  simp [hW, nW2, -lenA, hlen]
  refine awp_loop_g (γ := Nat) (fun i t h => (i ≤ l.length) ∧ (∃ rb, NJ n w V W b2 (l.take i) (fun _ => 0) rb h) ∧ t 1 = .int .i64 w ∧ t 5 = .ptr W 0 ∧ t 14 = V ∧ t 15 = .int .i64 l.length ∧ t 16 = .int .i64 i) (fun i => l.length - i) (0) (turnA_self ⟨Nat.zero_le _, ⟨fun _ => none, ⟨by simp [AHeap.upd, nW2], by simp [AHeap.upd]; rfl, fun p => by simp [nbr], (fun p q e => nomatch e), (fun p p' q e => nomatch e)⟩⟩, by simp⟩) ?_
  rintro i t h ⟨hi, hJ, h1, h5, h14, h15, h16⟩
  by_cases hlt : i < l.length
  · obtain ⟨rb, J⟩ := hJ
    obtain ⟨c2, cW, cn, cr, ci⟩ := J
    have hltI : (i : Int) < (l.length : Int) := by omega
    have hwi : IntKind.i64.wrap ((i : Int) + 1) = (i : Int) + 1 := wrap_i64 (by omega) (by omega)
    have hVs : V = .sl l.length (edC l) := by rw [hV]; exact edL_ne hlt
    obtain ⟨x, hx⟩ : ∃ x, l[i]? = some x := ⟨_, List.getElem?_eq_getElem hlt⟩
    have hat := edC_at hx
    have hi3 : 2 ≤ l.length * 2 - i * 2 := by omega
    have hi4 : min 2 (l.length * 2 - i * 2) = 2 := by omega
    have hok := g.ed x (List.mem_of_getElem? hx)
    have hts := take_snoc hx
    obtain ⟨p, hp⟩ : ∃ p : Nat, x.1 = p := ⟨x.1.toNat, by have := hok.1; omega⟩
    obtain ⟨q, hq⟩ : ∃ q : Nat, x.2 = q := ⟨x.2.toNat, by have := hok.2.2.1; omega⟩
    have hpq : p ≠ q := fun e => hok.2.2.2.2 (by rw [hp, hq, e])
    have hpqI : ¬ (p : Int) = (q : Int) := by omega
    have hqpI : ¬ (q : Int) = (p : Int) := by omega
    have hp40 : p < 40 := by have := hok.2.1; omega
    have hq40 : q < 40 := by have := hok.2.2.2.1; omega
    have d2 : ∀ off, cellsAt h b2 off = some (([.int .i64 n, V] : List AV).drop off) := fun off => cellsAt_eq c2
    have dW : ∀ off, cellsAt h W off = some ((fC n (growN rb w (l.take i)) (fun _ => 0) (fun _ => 0) (fun _ => 0) (fun _ => false) .nilsl).drop off) := fun off => cellsAt_eq cW
    have hnb : ∀ p' : Nat, nbr w (l.take (i + 1)) p' = nbr w (l.take i) p' ++ (if x.1 = w ∨ x.2 = w then [] else (if x.1 = (p' : Int) then [x.2] else []) ++ (if x.2 = (p' : Int) then [x.1] else [])) := fun p' => by rw [hts, nbr_snoc]
    simp [h1, h5, h14, h15, h16, hVs, hlt, hltI, hat, hi3, hi4]
    intro b7 hb7
    have m2 := ne_fresh (d2 0) hb7
    have mW := ne_fresh (dW 0) hb7
    have hb7h : h b7 = none := by simpa [Fresh] using hb7
    have same : x.1 = w ∨ x.2 = w → turnA (fun t' h' => ∃ g' : Nat, l.length - g' < l.length - i ∧ (g' ≤ l.length) ∧ (∃ rb, NJ n w V W b2 (l.take g') (fun _ => 0) rb h') ∧ t' 1 = .int .i64 w ∧ t' 5 = .ptr W 0 ∧ t' 14 = V ∧ t' 15 = .int .i64 l.length ∧ t' 16 = .int .i64 g') t (h.upd b7 (.cells [.int .i64 p, .int .i64 q])) → True := fun _ _ => trivial
    have skip : x.1 = w ∨ x.2 = w → NJ n w V W b2 (l.take (i + 1)) (fun _ => 0) rb h := fun e => by
      have hn2 : ∀ p', nbr w (l.take (i + 1)) p' = nbr w (l.take i) p' := fun p' => by rw [hnb, if_pos e, List.append_nil]
      have hgr : growN rb w (l.take (i + 1)) = growN rb w (l.take i) := by funext p'; unfold growN; rw [hn2]
      exact ⟨c2, by rw [hgr]; exact cW, fun p' => by rw [hn2]; exact cn p', fun p' q' e' => by rw [hn2]; exact cr p' q' e', ci⟩
    clear same
    simp [h1, h5, h14, h15, h16, m2, mW, hp, hq, splice]
    by_cases ew1 : (p : Int) = w
    · simp [h1, h5, h14, h15, h16, m2, mW, ew1]
      exact turnA_to h (Drop.new (Drop.refl _) hb7h) ⟨i + 1, by omega, by omega, ⟨rb, hVs ▸ skip (.inl (by rw [hp]; exact ew1))⟩, by simp [h1, h5, h14, h15, h16, hwi, hVs]⟩
    by_cases ew2 : (q : Int) = w
    · simp [h1, h5, h14, h15, h16, m2, mW, ew1, ew2]
      exact turnA_to h (Drop.new (Drop.refl _) hb7h) ⟨i + 1, by omega, by omega, ⟨rb, hVs ▸ skip (.inr (by rw [hq]; exact ew2))⟩, by simp [h1, h5, h14, h15, h16, hwi, hVs]⟩
    simp [h1, h5, h14, h15, h16, m2, mW, ew1, ew2]
    have hne : ¬ (x.1 = w ∨ x.2 = w) := by rw [hp, hq]; rintro (z | z); exact ew1 z; exact ew2 z
    have hna' : ∀ p' : Nat, nbr w (l.take (i + 1)) p' = nbr w (l.take i) p' ++ ((if p = p' then [(q : Int)] else []) ++ (if q = p' then [(p : Int)] else [])) := fun p' => by
      rw [hnb, if_neg hne, hp, hq]
      congr 1
      congr 1
      · by_cases z : p = p'
        · rw [if_pos z, if_pos (by rw [z])]
        · rw [if_neg z, if_neg (fun y => z (by omega))]
      · by_cases z : q = p'
        · rw [if_pos z, if_pos (by rw [z])]
        · rw [if_neg z, if_neg (fun y => z (by omega))]
    have hnp : nbr w (l.take (i + 1)) p = nbr w (l.take i) p ++ [(q : Int)] := by rw [hna', if_pos rfl, if_neg (fun e => hpq e.symm)]; rfl
    have hnq : nbr w (l.take (i + 1)) q = nbr w (l.take i) q ++ [(p : Int)] := by rw [hna', if_neg hpq, if_pos rfl]; rfl
    have hno : ∀ p', p' ≠ p → p' ≠ q → nbr w (l.take (i + 1)) p' = nbr w (l.take i) p' := fun p' z1 z2 => by rw [hna', if_neg (fun e => z1 e.symm), if_neg (fun e => z2 e.symm)]; simp
    have p40I : (p : Int) < 40 := by omega
    have q40I : (q : Int) < 40 := by omega
    obtain ⟨Ro, hRo⟩ : ∃ Ro, Ro = growN rb w (l.take i) := ⟨_, rfl⟩
    rw [← hRo] at dW
    obtain ⟨oa, hoa⟩ : ∃ oa, oa = rb p := ⟨_, rfl⟩
    obtain ⟨ob, hob⟩ : ∃ ob, ob = rb q := ⟨_, rfl⟩
    have hRp : Ro p = ownV oa (nbr w (l.take i) p).length 1 := by rw [hRo, hoa]; rfl
    have hRq : Ro q = ownV ob (nbr w (l.take i) q).length 1 := by rw [hRo, hob]; rfl
    have lena := nbr_len (w := w) (l := l.take i) (p := p)
    have lenb := nbr_len (w := w) (l := l.take i) (p := q)
    have htl : (l.take i).length ≤ 300 := by simp; omega
    have ca := fun x (e : oa = some x) => cr p x (hoa ▸ e)
    have cb := fun x (e : ob = some x) => cr q x (hob ▸ e)
    have b7r : ∀ p x, rb p = some x → x ≠ b7 := fun p x e => (ne_fresh (cellsAt_eq (off := 0) (cr p x e).1) hb7).1
    have ca7 := fun x (e : oa = some x) => b7r p x (hoa ▸ e)
    have cb7 := fun x (e : ob = some x) => b7r q x (hob ▸ e)
    have cab : ∀ x, oa = some x → ob = some x → False := fun x e1 e2 => hpq (ci p q x (hoa ▸ e1) (hob ▸ e2))
    obtain ⟨na, hna⟩ : ∃ na, na = (nbr w (l.take i) p).length := ⟨_, rfl⟩
    obtain ⟨nb, hnbl⟩ : ∃ nb, nb = (nbr w (l.take i) q).length := ⟨_, rfl⟩
    rw [← hna] at hRp lena
    rw [← hnbl] at hRq lenb
    have z5 : 1 + p ≤ 201 := by omega
    have z6 : 1 + q ≤ 201 := by omega
    refine awp_drawM (by kernel_rfl) (fun b => if b = W then 3 else if b = b7 then 4 else if oa = some b then 5 else if ob = some b then 6 else 0)
      [[], [], [4], [], [], [4], [], [], [4], [], [], [], [3], [], [4], [], [5, 0], [], [], [4], [], [], [], [3], [], [4], [], [6, 0], [], [], [], [3], [], [], [], [3]] (by kernel_rfl) (by kernel_rfl) ?_
    simp [h1, h5, h14, h15, h16, m2, mW, dW, p40I, q40I, hp40, hq40, dr_row, hRp, hRq]
    intro b8 hb8
    simp at hb8
    simp [hb8]
    have hb8h : h b8 = none := by have := hb8; simpa [Fresh] using this.2.2
    have hb8f : Fresh h b8 := by simpa [Fresh] using hb8h
    have ca8 := fun x (e : oa = some x) => show x ≠ b8 from fun q => by have := (ca x e).1; rw [q, hb8h] at this; cases this
    have cb8 := fun x (e : ob = some x) => show x ≠ b8 from fun q => by have := (cb x e).1; rw [q, hb8h] at this; cases this
    have m28 := ne_fresh (d2 0) hb8f
    have m8W := ne_fresh (dW 0) hb8f
    refine ⟨fun b hb => ?_, ?_⟩
    · rcases hb with hb | rfl
      · have hb := mem_blkS_ownV.1 hb
        obtain ⟨_, e1, e2⟩ := ca b hb
        have e5 := ca7 b hb
        simp [hb, e1, e2, e5]
      · have e1 : ¬ oa = some b := fun e => ca8 b e rfl
        have e2 : ¬ ob = some b := fun e => cb8 b e rfl
        simp [e1, e2, hb8, m8W]
    refine appendK_own (cs := intC (nbr w (l.take i) p)) (by omega) (by omega) ?_ (by simp [hna]) ?_ fun b9 hb9 => ?_
    · intro e
      have := (cn p).1 (hoa ▸ e)
      rw [hna, this]; exact ⟨rfl, rfl⟩
    · intro x e
      obtain ⟨e0, e1, e2⟩ := ca x e
      rw [AHeap.upd_ne (ca8 x e), AHeap.upd_ne (ca7 x e)]
      exact e0
    have f9 : b9 ≠ b2 ∧ b9 ≠ W ∧ b9 ≠ b7 ∧ b9 ≠ b8 ∧ (∀ p' x, rb p' = some x → x = b9 → p' = p) ∧ (oa = some b9 ∨ h b9 = none) := by
      rcases hb9 with e | e
      · obtain ⟨e0, e1, e2⟩ := ca b9 e
        exact ⟨e2, e1, ca7 b9 e, ca8 b9 e, fun p' x he hx => ci p' p b9 (hx ▸ he) (hoa ▸ e), .inl e⟩
      · simp at e
        have e6 : Fresh h b9 := by simp [e]
        have hn : h b9 = none := by simpa [Fresh] using e6
        refine ⟨(ne_fresh (d2 0) e6).2, (ne_fresh (dW 0) e6).2, by simp [e], by simp [e], fun p' x he hx => ?_, .inr hn⟩
        have := (cr p' x he).1
        rw [hx, hn] at this; cases this
    obtain ⟨f92, f9W, f97, f98, f9r, f9o⟩ := f9
    have f9q : ¬ ob = some b9 := fun e => hpq (f9r q b9 (hob ▸ e) rfl).symm
    simp [h1, h5, h14, h15, h16, m2, mW, m28, m8W, dW, p40I, q40I, hp40, hq40, dr_row, hRp, hRq, f92, f9W, f97, f98, f92.symm, f9W.symm, f97.symm, f98.symm, hb8]
    intro b10 hb10
    simp at hb10
    simp [hb10]
    have hb10f : Fresh h b10 := by simp [hb10]
    have hb10h : h b10 = none := by simpa [Fresh] using hb10f
    have ca10 := fun x (e : oa = some x) => show x ≠ b10 from fun q => by have := (ca x e).1; rw [q, hb10h] at this; cases this
    have cb10 := fun x (e : ob = some x) => show x ≠ b10 from fun q => by have := (cb x e).1; rw [q, hb10h] at this; cases this
    have m210 := ne_fresh (d2 0) hb10f
    have m10W := ne_fresh (dW 0) hb10f
    refine ⟨fun b hb => ?_, ?_⟩
    · rcases hb with hb | rfl
      · have hb := mem_blkS_ownV.1 hb
        obtain ⟨_, e1, e2⟩ := cb b hb
        have e5 := cb7 b hb
        have e6 : ¬ oa = some b := fun e => cab b e hb
        simp [hb, e1, e2, e5, e6]
      · have e1 : ¬ oa = some b := fun e => ca10 b e rfl
        have e2 : ¬ ob = some b := fun e => cb10 b e rfl
        simp [e1, e2, hb10, m10W]
    refine appendK_own (cs := intC (nbr w (l.take i) q)) (by omega) (by omega) ?_ (by simp [hnbl]) ?_ fun b11 hb11 => ?_
    · intro e
      have := (cn q).1 (hob ▸ e)
      rw [hnbl, this]; exact ⟨rfl, rfl⟩
    · intro x e
      obtain ⟨e0, e1, e2⟩ := cb x e
      have e9 : x ≠ b9 := fun q => f9q (q ▸ e)
      rw [AHeap.upd_ne (cb10 x e), AHeap.upd_ne e9, AHeap.upd_ne (cb8 x e), AHeap.upd_ne (cb7 x e)]
      exact e0
    have f11 : b11 ≠ b2 ∧ b11 ≠ W ∧ b11 ≠ b7 ∧ b11 ≠ b8 ∧ b11 ≠ b9 ∧ b11 ≠ b10 ∧ (∀ p' x, rb p' = some x → x = b11 → p' = q) := by
      rcases hb11 with e | e
      · obtain ⟨e0, e1, e2⟩ := cb b11 e
        exact ⟨e2, e1, cb7 b11 e, cb8 b11 e, fun q => f9q (q ▸ e), cb10 b11 e, fun p' x he hx => ci p' q b11 (hx ▸ he) (hob ▸ e)⟩
      · simp at e
        have e6 : Fresh h b11 := by simp [e]
        have hn : h b11 = none := by simpa [Fresh] using e6
        refine ⟨(ne_fresh (d2 0) e6).2, (ne_fresh (dW 0) e6).2, by simp [e], by simp [e], by simp [e], by simp [e], fun p' x he hx => ?_⟩
        have := (cr p' x he).1
        rw [hx, hn] at this; cases this
    obtain ⟨f112, f11W, f117, f118, f119, f1110, f11r⟩ := f11
    simp [h1, h5, h14, h15, h16, m2, mW, m28, m8W, m210, m10W, dW, p40I, q40I, hp40, hq40, sp_row, f112, f11W, f117, f118, f119, f1110, f112.symm, f11W.symm, f117.symm, f118.symm, f119.symm, f1110.symm, f92, f9W, f97, f98, f92.symm, f9W.symm, f97.symm, f98.symm, hb8, hb10, z5, z6]
    refine turnA_self ⟨i + 1, by omega, by omega, ⟨upf (upf rb p (some b9)) q (some b11), ?_⟩, by simp [h1, h5, h14, h15, h16, hwi, hVs]⟩
    rw [← hVs]
    have hgrow : growN (upf (upf rb p (some b9)) q (some b11)) w (l.take (i + 1)) = upf (upf Ro p (.osl b9 0 (na + 1) 1)) q (.osl b11 0 (nb + 1) 1) := by
      funext p'
      unfold growN upf
      by_cases e1 : p' = q
      · subst e1
        rw [hnq]
        simp [hnbl]
      · by_cases e2 : p' = p
        · subst e2
          rw [hnp]
          simp [hna, e1]
        · rw [hno p' e2 e1]
          simp only [e1, e2, if_false]
          rw [hRo]; rfl
    have e9W := f9W.symm
    have e11W := f11W.symm
    refine ⟨?_, ?_, ?_, ?_, ?_⟩
    · rw [AHeap.upd_ne nW2, AHeap.upd_ne f112.symm, AHeap.upd_ne m210.1, AHeap.upd_ne f92.symm, AHeap.upd_ne m28.1, AHeap.upd_ne m2.1]
      exact c2
    · rw [hgrow, AHeap.upd_same]
    · intro p'
      unfold upf
      by_cases e1 : p' = q
      · subst e1
        rw [hnq]; simp
      · rw [if_neg e1]
        by_cases e2 : p' = p
        · subst e2
          rw [hnp]; simp
        · rw [if_neg e2, hno p' e2 e1]
          exact cn p'
    · intro p' x' e
      unfold upf at e
      by_cases e1 : p' = q
      · rw [if_pos e1] at e; cases e
        subst e1
        rw [hnq]
        refine ⟨?_, f11W, f112⟩
        rw [AHeap.upd_ne f11W, AHeap.upd_same]; simp [intC]
      · rw [if_neg e1] at e
        by_cases e2 : p' = p
        · rw [if_pos e2] at e; cases e
          subst e2
          rw [hnp]
          refine ⟨?_, f9W, f92⟩
          rw [AHeap.upd_ne f9W, AHeap.upd_ne f119.symm, AHeap.upd_ne (by simp [hb10]), AHeap.upd_same]; simp [intC]
        · rw [if_neg e2] at e
          obtain ⟨e3, e4, e5⟩ := cr p' x' e
          rw [hno p' e2 e1]
          refine ⟨?_, e4, e5⟩
          have g11 : x' ≠ b11 := fun q => e1 (f11r p' x' e q)
          have g9 : x' ≠ b9 := fun q => e2 (f9r p' x' e q)
          have g10 : x' ≠ b10 := fun q => by rw [q, hb10h] at e3; cases e3
          have g8 : x' ≠ b8 := fun q => by rw [q, hb8h] at e3; cases e3
          rw [AHeap.upd_ne e4, AHeap.upd_ne g11, AHeap.upd_ne g10, AHeap.upd_ne g9, AHeap.upd_ne g8, AHeap.upd_ne (b7r p' x' e)]
          exact e3
    · intro p' p2 x' e e'
      unfold upf at e e'
      by_cases e1 : p' = q
      · rw [if_pos e1] at e; cases e
        by_cases d1 : p2 = q
        · rw [e1, d1]
        · rw [if_neg d1] at e'
          by_cases d2 : p2 = p
          · rw [if_pos d2] at e'; cases e'; exact absurd rfl f119
          · rw [if_neg d2] at e'; exact absurd (f11r p2 _ e' rfl) d1
      · rw [if_neg e1] at e
        by_cases e2 : p' = p
        · rw [if_pos e2] at e; cases e
          by_cases d1 : p2 = q
          · rw [if_pos d1] at e'; cases e'; exact absurd rfl f119
          · rw [if_neg d1] at e'
            by_cases d2 : p2 = p
            · rw [e2, d2]
            · rw [if_neg d2] at e'; exact absurd (f9r p2 _ e' rfl) d2
        · rw [if_neg e2] at e
          by_cases d1 : p2 = q
          · rw [if_pos d1] at e'; cases e'; exact absurd (f11r p' _ e rfl) e1
          · rw [if_neg d1] at e'
            by_cases d2 : p2 = p
            · rw [if_pos d2] at e'; cases e'; exact absurd (f9r p' _ e rfl) e2
            · rw [if_neg d2] at e'; exact ci p' p2 x' e e'
  · obtain rfl : i = l.length := by omega
    rw [List.take_length] at hJ
    obtain ⟨rb, J⟩ := hJ
    simp [h1, h5, h14, h15, h16]
    refine awp_loop_g (γ := Nat) (fun k t h => (k ≤ 40) ∧ (NJ n w V W b2 l (fun j => if j < k then -1 else 0) rb h) ∧ t 5 = .ptr W 0 ∧ t 65 = .int .i64 k) (fun k => 40 - k) (0) (turnA_self (by simp [h1, h5, h14, h15, h16]; exact J)) ?_
    rintro k t h ⟨hk, hJ2, h5, h65⟩
    obtain ⟨c2, cW, cn, cr, ci⟩ := hJ2
    have dW : ∀ off, cellsAt h W off = some ((fC n (growN rb w l) (fun j => if j < k then -1 else 0) (fun _ => 0) (fun _ => 0) (fun _ => false) .nilsl).drop off) := fun off => cellsAt_eq cW
    by_cases hkt : k < 40
    · have hktI : (k : Int) < 40 := by omega
      have hwk : IntKind.i64.wrap ((k : Int) + 1) = (k : Int) + 1 := wrap_i64 (by omega) (by omega)
      have zk : 41 + k ≤ 201 := by omega
      have hm : upf (fun j => if j < k then (-1 : Int) else 0) k (-1) = fun j => if j < k + 1 then -1 else 0 := by
        funext j
        unfold upf
        by_cases e : j = k
        · subst e; simp
        · by_cases e2 : j < k
          · simp [e, e2, show j < k + 1 by omega]
          · simp [e, e2, show ¬ j < k + 1 by omega]
      simp [h5, h65, hkt, hktI, dW, zk, sp_mate, hm]
      refine turnA_self ⟨k + 1, by omega, by omega, ⟨?_, AHeap.upd_same, cn, fun p' q' e => ?_, ci⟩, by simp [h5, h65, hwk]⟩
      · rw [AHeap.upd_ne nW2]; exact c2
      · obtain ⟨r1, r2, r3⟩ := cr p' q' e
        exact ⟨by rw [AHeap.upd_ne r2]; exact r1, r2, r3⟩
    · obtain rfl : k = 40 := by omega
      simp [h5, h65]
      refine ⟨2, AHeap.empty.upd W (.cells (fC n (fun p => intL (nbr w l p)) (fun _ => -1) (fun _ => 0) (fun _ => 0) (fun _ => false) .nilsl)), .ptr W 0, fun b => ?_, .inl rfl, W, rfl, rfl⟩
      by_cases hb : b = W
      · subst hb
        refine .inr (.inr ⟨_, cW, ?_⟩)
        rw [fC_map _ (fun n => rfl) (fun b => rfl)]
        rw [AHeap.upd_same]
        have hmc : fC n (fun p => intL (nbr w l p)) (fun _ => -1) (fun _ => 0) (fun _ => 0) (fun _ => false) .nilsl = fC n (fun p => intL (nbr w l p)) (fun j => if j < 40 then -1 else 0) (fun _ => 0) (fun _ => 0) (fun _ => false) .nilsl := by
          unfold fC
          rw [iarr_congr (f := fun _ => -1) (g := fun j => if j < 40 then -1 else 0) (fun i hi => by simp [hi])]
        rw [hmc]
        congr 3
        · funext p
          unfold growN
          cases e : rb p with
          | none =>
            rw [(cn p).1 e]; rfl
          | some x =>
            obtain ⟨e3, e4, e5⟩ := cr p x e
            have hne : nbr w l p ≠ [] := fun q => by rw [(cn p).2 q] at e; cases e
            have hx : Fresh (AHeap.empty.upd b (.cells (fC n (fun p => intL (nbr w l p)) (fun j => if j < 40 then -1 else 0) (fun _ => 0) (fun _ => 0) (fun _ => false) .nilsl))) x := by
              unfold Fresh
              rw [AHeap.upd_ne e4]; rfl
            rw [ownV_some, frz_osl hx, cellsAt_eq e3]
            simp only [List.drop_zero, intC_length, Nat.mul_one, Nat.zero_add, Nat.le_refl, if_true]
            rw [List.take_of_length_le (by simp), map_frozen intC_frozen]
            unfold intL
            rw [if_neg hne]
      · rw [AHeap.upd_ne hb]
        exact .inl rfl
theorem at_any {f : FuncId} {args : List AV} {R : AV → AHeap → Prop} (c : ACalls Try.prog f args AHeap.empty R) (H : AHeap) : ACalls Try.prog f args H fun r h' => ∃ h1, h' = h1.un H ∧ Disj h1 H ∧ R r h1 := by
  have := ACalls.frame c (h2 := H) Disj.empty
  rw [AHeap.empty_un] at this
  exact this
theorem w_newFinderH (n : Int) (l : List Ed) (w : Int) (hc : chkG n l = 0) (H : AHeap) :
    ACalls Try.prog 66 [gV n l, .int .i64 w] H fun r h' => ∃ W, H W = none ∧ r = .ptr W 0 ∧ h' = H.upd W (.cells (fC n (fun p => intL (nbr w l p)) (fun _ => -1) (fun _ => 0) (fun _ => 0) (fun _ => false) .nilsl)) := by
  refine ACalls.mono (at_any (w_newFinder n l w hc) H) ?_
  rintro r h' ⟨h1, rfl, D, W, rfl, rfl⟩
  have hW : H W = none := (D W).resolve_left (by rw [AHeap.upd_same]; simp)
  refine ⟨W, hW, rfl, ?_⟩
  funext b
  unfold AHeap.un
  by_cases e : b = W
  · subst e; rw [AHeap.upd_same, AHeap.upd_same]
  · rw [AHeap.upd_ne e, AHeap.upd_ne e]; rfl
end Go.Proofs
