/-
  Texts: RgL6 RgL7.
-/
import Derived.Test.YtobdaaoefbgilaaG8
set_option linter.unusedSimpArgs false
set_option linter.unusedVariables false
set_option linter.unusedSectionVars false
section
/-
  Ring: the walk of the verdict.
-/
namespace Go.Proofs
open Go Go.AH
set_option maxRecDepth 10000
set_option maxHeartbeats 4000000

theorem runIt_all {α : Type} (p : α → Bool) (L : List α) : runIt (fun g t => g && p t) (fun g => g) true L = L.all p := runIt_and p L true rfl
def verdA (c a m : Nat) (ρ : AV) : AV := .agg [.int .i64 c, .int .i64 a, .int .i64 m, ρ]
theorem w_verdict (r : Rul) (hr : r.ok) (joint : Bool) (bj : Nat) (H : AHeap) (hj : JAt r joint bj H) :
    ACalls Try.prog 63 [.ptr bj 0] H fun v h => h = H ∧ ∃ c a m ρ L, v = .tup [verdA c a m ρ, L] ∧ Verd r joint c a m ρ L ∧ L.one = true ∧ ρ.one = true := by
  refine acalls_of Try.func63 rfl Try.call63 (by kernel_rfl) (by show _ ≤ (56 : Nat); simp) ?_
  have hsz := hr.sz
  obtain ⟨S, hS⟩ : ∃ S, S = r.size := ⟨_, rfl⟩
  have hsp : 0 < S := by rw [hS]; exact pw_pos (by have := hr.c2; omega) _
  have xj : ∀ off, cellsAt H bj off = some (([.int .i64 r.m, .int .i64 r.c, rowsA r.next, .int .i64 (S : Nat), .sl S (readyL r S), jMoves joint bj] : List AV).drop off) := by rw [hS]; exact hj
  simp
  intro b1 hb1
  have n1 := ne_fresh (xj 0) hb1
  simp
  intro b2 hb2
  obtain ⟨n21, n12, hb2⟩ : ¬ b2 = b1 ∧ ¬ b1 = b2 ∧ Fresh H b2 := by simpa using hb2
  have n2 := ne_fresh (xj 0) hb2
  simp
  intro b3 hb3
  obtain ⟨n32, n23, n31, n13, hb3⟩ : ¬ b3 = b2 ∧ ¬ b2 = b3 ∧ ¬ b3 = b1 ∧ ¬ b1 = b3 ∧ Fresh H b3 := by simpa using hb3
  have n3 := ne_fresh (xj 0) hb3
  have cx := fun h => w_idxRows S (fun k => readyF r (ofF r.c r.m k)) (by omega) h
  rw [show ((List.range S).map fun k => listA (readyF r (ofF r.c r.m k))) = readyL r S from rfl] at cx
  simp [xj, n1, n2, n3, n12, n21, n13, n31, n23, n32]
  refine ACalls.mono (cx _) ?_
  have dr0 : ∀ c1 c2 c3, Drop (((H.upd b1 c1).upd b2 c2).upd b3 c3) H := fun c1 c2 c3 => Drop.new (Drop.new (Drop.new (Drop.refl _) hb1) hb2) hb3
  rintro _ _ ⟨rfl, ⟨k, hk, hk0, hk1, rfl⟩ | ⟨hk1, rfl⟩⟩
  · simp [xj, n1, n2, n3, n12, n21, n13, n31, n23, n32]
    refine finA_to 1 H ?_ ⟨rfl, 1, k, 0, .nilsl, .nilsl, rfl, .stuck (by omega) (by simpa [stuckF] using hk0) (fun m hm => by simpa [stuckF] using hk1 m hm), rfl, rfl⟩
    intro b
    by_cases e : H b = none
    · exact .inl e
    · right
      have f : ∀ x, Fresh H x → ¬ b = x := fun x hx q => e (by rw [q]; exact hx)
      simp [AHeap.upd, f b1 hb1, f b2 hb2, f b3 hb3]
  · have hst : ∀ m, m < r.size → stuckF r m = false := fun m hm => by simpa [stuckF] using hk1 m (by omega)
    simp [xj, n1, n2, n3, n12, n21, n13, n31, n23, n32]
    obtain ⟨HH, hHH⟩ : ∃ HH, HH = (((H.upd b1 (.cells [.ptr bj 0])).upd b2 (.cells [.int .i64 0, .int .i64 0, .int .i64 0, .nilsl])).upd b3 (.cells [.nilsl])) := ⟨_, rfl⟩
    have hja : JAt r joint bj HH := by rw [hHH]; exact ((hj.holds.put n1.1).put n2.1).put n3.1
    have g1 : ∀ off, cellsAt HH b1 off = some (([.ptr bj 0] : List AV).drop off) := by intro off; rw [hHH]; simp [n1, n2, n3, n12, n21, n13, n31, n23, n32]
    have g2 : ∀ off, cellsAt HH b2 off = some (([.int .i64 0, .int .i64 0, .int .i64 0, .nilsl] : List AV).drop off) := by intro off; rw [hHH]; simp [n1, n2, n3, n12, n21, n13, n31, n23, n32]
    have g3 : ∀ off, cellsAt HH b3 off = some (([.nilsl] : List AV).drop off) := by intro off; rw [hHH]; simp [n1, n2, n3, n12, n21, n13, n31, n23, n32]
    have gj : ∀ off, cellsAt HH bj off = some (([.int .i64 r.m, .int .i64 r.c, rowsA r.next, .int .i64 (S : Nat), .sl S (readyL r S), jMoves joint bj] : List AV).drop off) := by rw [hS]; exact hja
    have dH : ∀ h, (∀ b, H b ≠ none → h b = HH b) → Drop h H := fun h q b => by
      by_cases e : H b = none
      · exact .inl e
      · right
        rw [q b e, hHH]
        have f : ∀ x, Fresh H x → ¬ b = x := fun x hx q => e (by rw [q]; exact hx)
        simp [AHeap.upd, f b1 hb1, f b2 hb2, f b3 hb3]
    rw [← hHH]
    refine awp_loop_g (γ := Nat) (fun n t h => (n ≤ S) ∧ (∀ m, m < n → leaveF r joint m = false) ∧ t 1 = .ptr b1 0 ∧ t 2 = .ptr b2 0 ∧ t 3 = .ptr b3 0 ∧ t 21 = .int .i64 S ∧ t 22 = .int .i64 n ∧ h = HH) (fun n => S - n) (0) (turnA_self (by simp [xj, n1, n2, n3, n12, n21, n13, n31, n23, n32])) ?_
    rintro n t hx ⟨hn, hal, h1, h2, h3, h21, h22, ex⟩
    rw [ex]
    clear ex
    by_cases hlt : n < S
    · have hwn : IntKind.i64.wrap ((n : Int) + 1) = (n : Int) + 1 := wrap_i64 (by omega) (by omega)
      simp [h1, h2, h3, h21, h22, hlt]
      intro b5 hb5
      have m1 := ne_fresh (g1 0) hb5
      have m2 := ne_fresh (g2 0) hb5
      have m3 := ne_fresh (g3 0) hb5
      have mj := ne_fresh (gj 0) hb5
      have hb5' : HH b5 = none := hb5
      have hj5 : JAt r joint bj (HH.upd b5 (.cells [.int .i64 n])) := hja.upd hb5'
      have cg := w_good r hr joint bj _ hj5 n (by omega)
      have cm := w_moves joint bj (HH.upd b5 (.cells [.int .i64 n])) hj5.ne n
      simp [h1, h2, h3, h21, h22, g1, m1]
      refine cg.use ?_
      simp [h1, h2, h3, h21, h22]
      refine condA_case (fun hgd => ?_) fun hgd => ?_
      · replace hgd : goodF r n = false := by simpa using hgd
        simp [h1, h2, h3, h21, h22]
        refine turnA_to HH (Drop.new (Drop.refl _) hb5) ⟨n + 1, by omega, by omega, fun m hm => ?_, by simp [h1, h2, h3, h21, h22, hwn]⟩
        by_cases e : m = n
        · subst e; unfold leaveF; rw [hgd]; rfl
        · exact hal m (by omega)
      · replace hgd : goodF r n = true := by simpa using hgd
        have hlv : leaveF r joint n = !((moveL r n joint).all fun t => goodF r t) := by
          unfold leaveF
          rw [hgd, Bool.true_and]
          induction moveL r n joint with
          | nil => rfl
          | cons x l ih => simp [ih, Bool.not_and]
        simp [h1, h2, h3, h21, h22]
        refine awp_draw_text (by kernel_rfl) [] [] (by kernel_rfl) (by kernel_rfl) (by simp) ?_
        simp [h1, h2, h3, h21, h22, g1, m1, m2, m3, mj, gj]
        refine ACallV.mono cm ?_
        rintro _ _ ⟨rfl, rfl⟩
        simp [h1, h2, h3, h21, h22]
        have hq5 : ¬ H b5 ≠ none := by
          intro q
          apply q
          have := hb5'
          rw [hHH, AHeap.upd_ne m3.2, AHeap.upd_ne m2.2, AHeap.upd_ne m1.2] at this
          exact this
        refine awp_iterH (fun _ _ _ q ql => JAt.upd q ql) (S := JAt r joint bj) (by simp [mvFn]) (iter_moves r hr joint bj n (by omega)) (fun (g : Bool) h => h = if g = true then HH.upd b5 (.cells [.int .i64 n]) else (HH.upd b5 (.cells [.int .i64 n])).upd b2 (.cells [.int .i64 2, .int .i64 n, .int .i64 0, .nilsl]))
          (by
            rintro g _ rfl
            split
            · exact hj5
            · exact (Holds.put (cs := jCells r joint bj) hj5 n2.1))
          (fun g t => g && goodF r t) (fun g => if g then none else some .ret) true rfl rfl (by kernel_rfl) (by kernel_rfl) (by simp) (by intro a _; rfl) (.inl rfl) ?_ ?_ ?_
        · rintro l i g a h ha _ hj rfl
          obtain rfl : g = true := by
            cases g with
            | true => rfl
            | false => simp at hj
          have hat := moveL_lt hr n joint a (List.mem_of_getElem? ha)
          have cg2 := w_good r hr joint bj _ hj5 a hat
          simp [h1, h2, h3, h21, h22, putsA, g1, m1]
          refine cg2.use ?_
          simp [h1, h2, h3, h21, h22]
          refine condA_case (fun hc => ?_) fun hc => ?_
          · replace hc : goodF r a = false := by simpa using hc
            simp [h1, h2, h3, h21, h22, g2, g3, m2, m3, g1, m1, mj, n23, n32, hc]
            have w4 : ((HH.upd b5 (.cells [.int .i64 n])).upd b2 (.cells [.int .i64 2, .int .i64 n, .int .i64 0, .nilsl])).upd b3 (.cells [.nilsl]) = (HH.upd b5 (.cells [.int .i64 n])).upd b2 (.cells [.int .i64 2, .int .i64 n, .int .i64 0, .nilsl]) := by
              refine Holds.self ?_
              intro off
              simp [n32, m3, g3]
            rw [w4]
            exact Drop.refl _
          · replace hc : goodF r a = true := by simpa using hc
            simp [h1, h2, h3, h21, h22, hc]
            exact Drop.refl _
        · intro g e he
          cases g <;> simp at he
          exact .inl he.symm
        · rintro _ rfl
          have hrun := runIt_all (fun t => goodF r t) (moveL r n joint)
          have hgo : (fun g : Bool => (if g then none else some Exit.ret : Option Exit).isNone) = fun g => g := by funext g; cases g <;> rfl
          rw [hgo, hrun]
          cases hq : (moveL r n joint).all fun t => goodF r t with
          | true =>
            simp [h1, h2, h3, h21, h22]
            refine turnA_to HH (Drop.new (Drop.refl _) hb5) ⟨n + 1, by omega, by omega, fun m hm => ?_, by simp [h1, h2, h3, h21, h22, hwn]⟩
            by_cases e : m = n
            · subst e; rw [hlv, hq]; rfl
            · exact hal m (by omega)
          | false =>
            simp [h1, h2, h3, h21, h22, g2, g3, m2, m3, n23, n32]
            refine finA_to 1 H (dH _ fun b hb => ?_) ⟨rfl, 2, n, 0, .nilsl, .nilsl, rfl, .leaves hst (by omega) (by rw [hlv, hq]; rfl) hal, rfl, rfl⟩
            have f : ∀ x, Fresh H x → ¬ b = x := fun x hx q => hb (by rw [q]; exact hx)
            have f5 : ¬ b = b5 := fun q => hq5 (by rw [← q]; exact hb)
            rw [AHeap.upd_ne (f b2 hb2), AHeap.upd_ne f5]
    · obtain rfl : n = S := by omega
      have cr := w_ranked r hr joint n hS bj HH hja
      have hle : ∀ m, m < r.size → leaveF r joint m = false := fun m hm => hal m (by omega)
      simp [h1, h2, h3, h21, h22, g1]
      refine ACalls.mono cr ?_
      rintro _ _ ⟨rfl, ⟨ρ, rfl, hρ⟩ | ⟨L, rfl, hL⟩⟩
      · obtain ⟨x, ρ, rfl⟩ := List.exists_cons_of_ne_nil hρ.ne
        simp [h1, h2, h3, h21, h22, g2, g3, n23, n32, natsA]
        refine finA_to 1 H (dH _ fun b hb => ?_) ⟨rfl, 3, 0, 0, natsA (x :: ρ), .nilsl, ?_, .lasso hst hle (by rw [← hS]; exact hρ), rfl, by simp⟩
        · have f : ∀ x, Fresh H x → ¬ b = x := fun x hx q => hb (by rw [q]; exact hx)
          simp [AHeap.upd, f b2 hb2, f b3 hb3]
        · simp [verdA, natsA]
      · have hLl := hL.1
        have hLne : ¬ L = [] := fun e => by rw [e] at hLl; simp at hLl; omega
        have cmx := w_Max L (by omega) (fun x hx => by
          obtain ⟨i, hi, rfl⟩ := List.getElem_of_mem hx
          have hk := hL.2 i (by omega)
          rw [show L.getD i 0 = L[i] from by simp [hi]] at hk
          have := hk.lt (size := n) (fun a ha t ht => by rw [hS]; exact moveL_lt hr a joint t ht) (by omega)
          omega) hLne
        simp [h1, h2, h3, h21, h22, g2, g3, n23, n32]
        refine cmx.use ?_
        simp [h1, h2, h3, h21, h22, g2, g3, n23, n32]
        refine finA_to 1 H (dH _ fun b hb => ?_) ⟨rfl, 0, 0, maxL L, .nilsl, natsA L, rfl, .steady hst hle (by rw [← hS]; exact hL), by simp, rfl⟩
        have f : ∀ x, Fresh H x → ¬ b = x := fun x hx q => hb (by rw [q]; exact hx)
        simp [AHeap.upd, f b2 hb2, f b3 hb3]
end Go.Proofs

end

section
/-
  Ring: Judge, Rank and Good.
-/
namespace Go.Proofs
open Go Go.AH
set_option maxRecDepth 10000
set_option maxHeartbeats 4000000

def goodsL (r : Rul) (n : Nat) : List Nat := (List.range n).filter (goodF r)
theorem goodsL_succ (r : Rul) (n : Nat) : goodsL r (n + 1) = goodsL r n ++ if goodF r n = true then [n] else [] := by
  unfold goodsL
  rw [List.range_succ, List.filter_append]
  congr 1
  by_cases h : goodF r n = true <;> simp [h]
theorem goodsL_len (r : Rul) (n : Nat) : (goodsL r n).length ≤ n := by
  unfold goodsL
  exact Nat.le_trans (List.length_filter_le _ _) (by simp)

def JudgeRes (r : Rul) (joint : Bool) (v : AV) : Prop := ∃ c a m ρ L, v = .tup [verdA c a m ρ, .int .i64 0] ∧ Verd r joint c a m ρ L ∧ ρ.one = true
theorem w_Judge (r : Rul) (hr : r.ok) (joint : Bool) : ACalls Try.prog 30 [r.av, .bool joint] AHeap.empty fun v h => h = AHeap.empty ∧ JudgeRes r joint v := by
  refine acalls_of Try.func30 rfl Try.call30 (by kernel_rfl) (by show _ ≤ (23 : Nat); simp) ?_
  have hav : r.av = .agg [.int .i64 r.m, .int .i64 r.c, rowsA r.next] := rfl
  have cc := w_Check r hr
  rw [hav] at cc ⊢
  simp
  intro b2 hb2
  simp
  intro b4 hb4
  simp at hb4
  simp [hb4]
  refine cc.use ?_
  simp [hb4]
  have cn := newJudge_at r hr joint ((AHeap.empty.upd b2 (.cells [.int .i64 r.m, .int .i64 r.c, rowsA r.next])).upd b4 (.cells [.int .i64 0, .int .i64 0, .int .i64 0, .nilsl]))
  rw [hav] at cn
  refine ACalls.mono cn ?_
  rintro _ _ ⟨bj, rfl, rfl, hbj⟩
  have hja := JAt_new r joint bj ((AHeap.empty.upd b2 (.cells [.int .i64 r.m, .int .i64 r.c, rowsA r.next])).upd b4 (.cells [.int .i64 0, .int .i64 0, .int .i64 0, .nilsl]))
  have cv := w_verdict r hr joint bj _ hja
  simp at hbj
  simp
  refine ACalls.mono cv ?_
  rintro _ _ ⟨rfl, c, a, m, ρ, L, rfl, hv, hL1, hρ1⟩
  simp [verdA, hL1, hρ1, hbj, hb4]
  intro b7 hb7
  simp at hb7
  simp [hb7, hb4, hbj, hρ1, hL1]
  exact finA_drop ⟨rfl, c, a, m, ρ, L, rfl, hv, hρ1⟩
def RankRet (r : Rul) (v : AV) : Prop := ∃ c a m ρ L, Verd r false c a m ρ L ∧ L.one = true ∧ v = if c = 0 then .tup [L, .int .i64 0] else .tup [.nilsl, .int .i64 80]
theorem w_Rank (r : Rul) (hr : r.ok) : ACalls Try.prog 39 [r.av] AHeap.empty fun v h => h = AHeap.empty ∧ RankRet r v := by
  refine acalls_of Try.func39 rfl Try.call39 (by kernel_rfl) (by show _ ≤ (22 : Nat); simp) ?_
  have hav : r.av = .agg [.int .i64 r.m, .int .i64 r.c, rowsA r.next] := rfl
  have cc := w_Check r hr
  rw [hav] at cc ⊢
  simp
  intro b1 hb1
  simp
  refine cc.use ?_
  simp
  have cn := newJudge_at r hr false (AHeap.empty.upd b1 (.cells [.int .i64 r.m, .int .i64 r.c, rowsA r.next]))
  rw [hav] at cn
  refine ACalls.mono cn ?_
  rintro _ _ ⟨bj, rfl, rfl, hbj⟩
  have hja := JAt_new r false bj (AHeap.empty.upd b1 (.cells [.int .i64 r.m, .int .i64 r.c, rowsA r.next]))
  have cv := w_verdict r hr false bj _ hja
  simp at hbj
  simp
  refine ACalls.mono cv ?_
  rintro _ _ ⟨rfl, c, a, m, ρ, L, rfl, hv, hL1, hρ1⟩
  simp [verdA, hL1, hρ1, hbj]
  intro b7 hb7
  simp at hb7
  simp [hb7, hbj, hρ1, hL1]
  by_cases hc : c = 0
  · subst hc
    simp [hL1]
    exact finA_to 1 AHeap.empty (by intro b; left; rfl) ⟨rfl, 0, a, m, ρ, L, hv, hL1, rfl⟩
  · have hcI : ¬ (c : Int) = 0 := by omega
    simp [hc, hcI]
    exact finA_drop ⟨rfl, c, a, m, ρ, L, hv, hL1, by rw [if_neg hc]⟩
theorem w_Good (r : Rul) (hr : r.ok) : Pure Try.prog 40 [r.av] (.tup [listA (goodsL r r.size), .int .i64 0]) := by
  refine pure_of (acalls_of Try.func40 rfl Try.call40 (by kernel_rfl) (by show _ ≤ (31 : Nat); simp) ?_)
  have hav : r.av = .agg [.int .i64 r.m, .int .i64 r.c, rowsA r.next] := rfl
  have cc := w_Check r hr
  have hsz := hr.sz
  rw [hav] at cc ⊢
  simp
  intro b1 hb1
  simp
  refine cc.use ?_
  simp
  have cn := newJudge_at r hr false (AHeap.empty.upd b1 (.cells [.int .i64 r.m, .int .i64 r.c, rowsA r.next]))
  rw [hav] at cn
  refine ACalls.mono cn ?_
  rintro _ _ ⟨bj, rfl, rfl, hbj⟩
  have hja := JAt_new r false bj (AHeap.empty.upd b1 (.cells [.int .i64 r.m, .int .i64 r.c, rowsA r.next]))
  obtain ⟨HH, hHH⟩ : ∃ HH, HH = (AHeap.empty.upd b1 (.cells [.int .i64 r.m, .int .i64 r.c, rowsA r.next])).upd bj (.cells (jCells r false bj)) := ⟨_, rfl⟩
  rw [← hHH] at hja ⊢
  have gj := jcell hja
  simp [gj]
  refine awp_loop_g (γ := At) (fun q t h => (q.i ≤ r.size) ∧ ((q.o = none ↔ goodsL r q.i = []) ∧ FreshO HH q.o) ∧ t 5 = .ptr bj 0 ∧ t 6 = ownV q.o (goodsL r q.i).length 1 ∧ t 18 = .int .i64 (r.size : Nat) ∧ t 19 = .int .i64 q.i ∧ h = HH.updO q.o ((goodsL r q.i).map fun x : Nat => .int .i64 (x : Int))) (fun q => r.size - q.i) (⟨0, none⟩) (turnA_self (by simp [goodsL])) ?_
  rintro q t hx ⟨hi, ho, h5, h6, h18, h19, ex⟩
  rw [ex]
  clear ex
  obtain ⟨i, o⟩ := q
  simp only at h5 h6 h18 h19 hi ho
  obtain ⟨ho1, ho2⟩ := ho
  have hgl := goodsL_len r i
  by_cases hlt : i < r.size
  · have hwi : IntKind.i64.wrap ((i : Int) + 1) = (i : Int) + 1 := wrap_i64 (by omega) (by omega)
    have hs := goodsL_succ r i
    have hjo : JAt r false bj (HH.updO o ((goodsL r i).map fun x : Nat => .int .i64 (x : Int))) := by
      cases o with
      | none => exact hja
      | some b => exact hja.upd ho2
    have cg := w_good r hr false bj _ hjo i hlt
    simp [h5, h6, h18, h19, hlt]
    refine cg.use ?_
    cases hg : goodF r i with
    | true =>
      rw [hg, if_pos rfl] at hs
      simp [h5, h6, h18, h19]
      intro b1 hb1
      obtain ⟨x1, x4⟩ : ¬ o = some b1 ∧ Fresh HH b1 := by simpa using hb1
      simp [h5, h6, h18, h19, x1]
      refine appendA_updO (by omega) (by omega) (by simpa using ho1.1) (by simp) (by simp) (by cases o with | none => simp | some b => simp at x1 ho2 ⊢; simp [ho2, x1]; exact fun e => x1 e.symm) fun b' hb' => ?_
      obtain ⟨y1, y2, y5⟩ : ¬ b' = b1 ∧ ¬ b1 = b' ∧ Fresh HH b' := by simpa [x1] using hb'
      simp [h5, h6, h18, h19, y1, y2]
      refine turnA_to (HH.updO (some b') ((goodsL r (i + 1)).map fun x : Nat => AV.int .i64 (x : Int))) ?_ ⟨⟨i + 1, some b'⟩, by simp only; omega, by simp only; omega, ⟨by rw [hs]; simp, y5⟩, by simp [h5, h6, h18, h19, hwi, hs]⟩
      rw [hs]
      simp
      exact Drop.both (Drop.new (Drop.refl _) x4)
    | false =>
      rw [hg] at hs
      simp at hs
      simp [h5, h6, h18, h19]
      exact turnA_self ⟨⟨i + 1, o⟩, by simp only; omega, by simp only; omega, ⟨by rw [hs]; exact ho1, ho2⟩, by simp [h5, h6, h18, h19, hwi, hs]⟩
  · obtain rfl : i = r.size := by omega
    simp [h5, h6, h18, h19]
    refine finA_all 2 ?_
    rw [frz_tup]
    simp only [List.map_cons, List.map_nil]
    rw [frz_own (k := 0) rfl ho1 (by cases o <;> simp)]
    simp
end Go.Proofs

end
