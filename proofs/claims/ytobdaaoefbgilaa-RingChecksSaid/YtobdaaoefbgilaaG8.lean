/-
  Texts: RgL4 RgL5 RgM1 RgM2.
-/
import Derived.Test.YtobdaaoefbgilaaG7
import Derived.Test.YtobdaaoefbgilaaAhXg
set_option linter.unusedSimpArgs false
set_option linter.unusedVariables false
set_option linter.unusedSectionVars false
section
/-
  Ring: ranked.
-/
namespace Go.Proofs
open Go Go.AH
set_option maxRecDepth 10000
set_option maxHeartbeats 4000000

theorem runL_plan {P : Program} {G : AHeap} {A : Ann} {ops : Array Oper} {K : AF → AHeap → Prop} {i : Nat} {L : List Nat} {log : List Ent} {t : AF} {h : AHeap} {d : Option Nat} {op : Op} {ty : TypeId} {pos : String} {af : Array Edge} {p : Plan}
    (hi : ops[i]? = some { dst := d, op := op, type := ty, pos := pos, after := af, guard := none }) (hv : isCallV op = false) (hp : planA P t h op = some p) (hc : ∀ e ∈ log, clear ops i (fun b => b ∈ accA P t op) p e)
    (k : p.runK h fun v h' => runL P G A [] ops K L (⟨i, fun b => b ∈ accA P t op, wrB p, p.fr.isSome⟩ :: log) (t.putO d v) h') : runL P G A [] ops K (i :: L) log t h := by
  have hfl : ∀ o : Oper, flag [] o = false := by intro o; unfold flag; cases o.dst <;> rfl
  have ha : accD P G [] ops { dst := d, op := op, type := ty, pos := pos, after := af, guard := none } t = fun b => b ∈ accA P t op := by
    funext b
    simp [accD, wantedA, hfl]
  refine ⟨_, hi, ?_⟩
  rw [if_neg (by simp [hvy, hv])]
  refine ⟨p, ?_, ?_, ?_⟩
  · simp [planD, wantedA, hfl, hp]
  · rw [ha]; exact hc
  · rw [ha]; exact k
/-- What ranked finds. -/
def RankRes (r : Rul) (joint : Bool) (S : Nat) (a : AV) : Prop :=
  (∃ ρ, a = .tup [.nilsl, natsA ρ] ∧ RoundP (goodF r) (fun n => moveL r n joint) S ρ) ∨ (∃ L, a = .tup [natsA L, .nilsl] ∧ RkAll (goodF r) (fun n => moveL r n joint) S L)
structure LQ where
  n : Nat
  d : DS
  o : Option Nat
  h : AHeap
def AllBelow (r : Rul) (d : DS) (n : Nat) : Prop := d.way = [] ∧ ∀ m, m < n → goodF r m = true ∨ d.st.getD m 0 = 2
theorem w_ranked (r : Rul) (hr : r.ok) (joint : Bool) (S : Nat) (hS : S = r.size) (bj : Nat) (H : AHeap) (hj : JAt r joint bj H) : ACalls Try.prog 77 [.ptr bj 0] H fun a h => h = H ∧ RankRes r joint S a := by
  refine acalls_of Try.func77 rfl Try.call77 (by kernel_rfl) (by show _ ≤ (43 : Nat); simp) ?_
  have hsz := hr.sz
  have hsp : 0 < S := by rw [hS]; exact pw_pos (by have := hr.c2; omega) _
  have hSi : (S : Int) < 1073741824 := by omega
  have hSn : S < 1073741824 := by omega
  have xj := jcell hj
  rw [← hS] at xj
  simp
  intro b1 hb1
  have nj := ne_fresh (xj 0) hb1
  simp
  intro b2 hb2
  obtain ⟨n12, n21, hb2⟩ : ¬ b2 = b1 ∧ ¬ b1 = b2 ∧ Fresh H b2 := by simpa using hb2
  have nj2 := ne_fresh (xj 0) hb2
  simp
  intro b3 hb3
  obtain ⟨n32, n23, n31, n13, hb3⟩ : ¬ b3 = b2 ∧ ¬ b2 = b3 ∧ ¬ b3 = b1 ∧ ¬ b1 = b3 ∧ Fresh H b3 := by simpa using hb3
  have nj3 := ne_fresh (xj 0) hb3
  simp [xj, nj, nj2, nj3, n12, n21, n13, n31, n23, n32]
  refine AWP.scope (awp_sound _ _ _ _ (by kernel_rfl) ?_)
  simp [xj, nj, nj2, nj3, n12, n21, n13, n31, n23, n32, hSi, hSn]
  intro bR hbR
  obtain ⟨m1, m1', m2, m2', m3, m3', hbR⟩ : ¬ bR = b3 ∧ ¬ b3 = bR ∧ ¬ bR = b2 ∧ ¬ b2 = bR ∧ ¬ bR = b1 ∧ ¬ b1 = bR ∧ Fresh H bR := by simpa using hbR
  have njR := ne_fresh (xj 0) hbR
  simp [xj, nj, nj2, nj3, njR, n12, n21, n13, n31, n23, n32, m1, m1', m2, m2', m3, m3', hSi, hSn]
  intro bS hbS
  simp at hbS
  have njS := ne_fresh (xj 0) hbS.2.2.2.2.2.2.2.2
  simp [xj, nj, nj2, nj3, njR, njS, n12, n21, n13, n31, n23, n32, m1, m1', m2, m2', m3, m3', hbS]
  intro b4 hb4
  simp at hb4
  have nj4 := ne_fresh (xj 0) hb4.2.2.2.2.2.2.2.2.2.2
  simp [xj, nj, nj2, nj3, njR, njS, nj4, n12, n21, n13, n31, n23, n32, m1, m1', m2, m2', m3, m3', hbS, hb4]
  intro b5 hb5
  simp at hb5
  have nj5 := ne_fresh (xj 0) hb5.2.2.2.2.2.2.2.2.2.2.2.2
  simp
  intro b6 hb6
  simp at hb6
  have nj6 := ne_fresh (xj 0) hb6.2.2.2.2.2.2.2.2.2.2.2.2.2.2
  simp [xj, nj, nj2, nj3, njR, njS, nj4, nj5, nj6, n12, n21, n13, n31, n23, n32, m1, m1', m2, m2', m3, m3', hbS, hb4, hb5, hb6]
  have hfr : ∀ b ∈ BK.mut ⟨b1, b2, b3, b4, b5, b6, bj, bR, bS⟩, H b = none := by
    intro b hb
    simp only [BK.mut, List.mem_cons, List.not_mem_nil, or_false] at hb
    rcases hb with rfl | rfl | rfl | rfl
    · exact hb3
    · exact hb5.2.2.2.2.2.2.2.2.2.2.2.2
    · exact hbR
    · exact hbS.2.2.2.2.2.2.2.2
  have V0 : VI r joint S ⟨b1, b2, b3, b4, b5, b6, bj, bR, bS⟩ ⟨List.replicate S 0, [], List.replicate S 0⟩ none ((((((((H.upd b1 (.cells [.ptr bj 0])).upd b2 (.cells [.osl bR 0 S 1])).upd b3 (.cells [.nilsl])).upd bR (.cells (List.replicate S (.int .i64 0)))).upd bS (.cells (List.replicate S (.int .u8 0)))).upd b4 (.cells [.osl bS 0 S 1])).upd b5 (.cells [.nilsl])).upd b6 (.cells [.fn (.func 84) [] [.ptr b4 0, .ptr b5 0, .ptr b1 0, .ptr b2 0, .ptr b3 0, .ptr b6 0]])) := by
    refine ⟨?_, ?_, .of ?_, .of ?_, .of ?_, .of ?_, .of ?_, .of ?_, .of ?_, .of ?_, fun _ => rfl, fun b e => (by cases e), fun b e => (by cases e)⟩
    · simp [BK.fix, nj, nj2, nj3, njR, njS, nj4, nj5, nj6, n12, n21, n13, n31, n23, n32, m1, m1', m2, m2', m3, m3', hbS, hb4, hb5, hb6]
    · exact ((((((((hj.holds.put nj.1).put nj2.1).put nj3.1).put njR.1).put njS.1).put nj4.1).put nj5.1).put nj6.1)
    all_goals simp [BK.caps, u8C, n12, n21, n13, n31, n23, n32, m1, m1', m2, m2', m3, m3', hbS, hb4, hb5, hb6]
  have hHx : ∀ b, H b ≠ none → ((((((((H.upd b1 (.cells [.ptr bj 0])).upd b2 (.cells [.osl bR 0 S 1])).upd b3 (.cells [.nilsl])).upd bR (.cells (List.replicate S (.int .i64 0)))).upd bS (.cells (List.replicate S (.int .u8 0)))).upd b4 (.cells [.osl bS 0 S 1])).upd b5 (.cells [.nilsl])).upd b6 (.cells [.fn (.func 84) [] [.ptr b4 0, .ptr b5 0, .ptr b1 0, .ptr b2 0, .ptr b3 0, .ptr b6 0]])) b = H b := by
    intro b hb
    have f : ∀ x, H x = none → ¬ b = x := fun x hx e => hb (by rw [e]; exact hx)
    rw [AHeap.upd_ne (f b6 hb6.2.2.2.2.2.2.2.2.2.2.2.2.2.2), AHeap.upd_ne (f b5 hb5.2.2.2.2.2.2.2.2.2.2.2.2), AHeap.upd_ne (f b4 hb4.2.2.2.2.2.2.2.2.2.2), AHeap.upd_ne (f bS hbS.2.2.2.2.2.2.2.2), AHeap.upd_ne (f bR hbR), AHeap.upd_ne (f b3 hb3), AHeap.upd_ne (f b2 hb2), AHeap.upd_ne (f b1 hb1)]
  obtain ⟨H0, hH0⟩ : ∃ H0, H0 = ((((((((H.upd b1 (.cells [.ptr bj 0])).upd b2 (.cells [.osl bR 0 S 1])).upd b3 (.cells [.nilsl])).upd bR (.cells (List.replicate S (.int .i64 0)))).upd bS (.cells (List.replicate S (.int .u8 0)))).upd b4 (.cells [.osl bS 0 S 1])).upd b5 (.cells [.nilsl])).upd b6 (.cells [.fn (.func 84) [] [.ptr b4 0, .ptr b5 0, .ptr b1 0, .ptr b2 0, .ptr b3 0, .ptr b6 0]])) := ⟨_, rfl⟩
  rw [← hH0] at V0 hHx ⊢
  have K0 := Kp.refl (o := none) V0.inM
  have P0 : PI (goodF r) (fun n => moveL r n joint) S ⟨List.replicate S 0, [], List.replicate S 0⟩ := by
    refine ⟨by simp, by simp, fun t ht => .inl (by simp [ht]), by simp, fun t => ?_, fun t ht => by simp at ht, fun i hi => by simp at hi, fun t ht h => ?_, fun t ht _ => by simp [ht]⟩
    · simp only [List.not_mem_nil, false_iff]
      rintro ⟨h1, h2⟩
      simp [h1] at h2
    · simp [ht] at h
  refine awp_loop_g (γ := LQ) (fun q t h => (q.n ≤ S) ∧ (VI r joint S ⟨b1, b2, b3, b4, b5, b6, bj, bR, bS⟩ q.d q.o q.h) ∧ (PI (goodF r) (fun n => moveL r n joint) S q.d) ∧ (AllBelow r q.d q.n) ∧ (Kp (BK.mut ⟨b1, b2, b3, b4, b5, b6, bj, bR, bS⟩) none H0 q.h q.o) ∧ t 1 = .ptr b1 0 ∧ t 2 = .ptr b2 0 ∧ t 3 = .ptr b3 0 ∧ t 4 = .ptr b4 0 ∧ t 6 = .ptr b6 0 ∧ t 22 = .int .i64 S ∧ t 23 = .int .i64 q.n ∧ h = q.h) (fun q => S - q.n) (⟨0, ⟨List.replicate S 0, [], List.replicate S 0⟩, none, H0⟩) (turnA_self (by simp; exact ⟨V0, P0, ⟨rfl, fun m hm => absurd hm (by omega)⟩, K0⟩)) ?_
  rintro q t hx ⟨hn, hV, hP, hA, hK, h1, h2, h3, h4, h6, h22, h23, ex⟩
  rw [ex]
  clear ex
  obtain ⟨n, d, o, hq⟩ := q
  simp only at h1 h2 h3 h4 h6 h22 h23 hn hV hP hA hK ⊢
  have x1a : ∀ off, cellsAt hq b1 off = some (([.ptr bj 0] : List AV).drop off) := hV.e1
  have x2a : ∀ off, cellsAt hq b2 off = some (([.osl bR 0 S 1] : List AV).drop off) := hV.e2
  have x3a : ∀ off, cellsAt hq b3 off = some (([.nilsl] : List AV).drop off) := hV.e3
  have x4a : ∀ off, cellsAt hq b4 off = some (([.osl bS 0 S 1] : List AV).drop off) := hV.e4
  have x5a : ∀ off, cellsAt hq b5 off = some (([ownV o d.way.length 1] : List AV).drop off) := hV.e5
  have x6a : ∀ off, cellsAt hq b6 off = some (([.fn (.func 84) [] [.ptr b4 0, .ptr b5 0, .ptr b1 0, .ptr b2 0, .ptr b3 0, .ptr b6 0]] : List AV).drop off) := hV.e6
  have xRa := hV.eR
  have xSa := hV.eS
  have xja := jcell hV.j
  unfold Holds at xRa xSa
  have hcl : ∀ n, n < S → ∀ t ∈ moveL r n joint, t < S := fun m _ => by rw [hS]; exact moveL_lt hr m joint
  have hdrop : ∀ h2 : AHeap, (∀ b, H b ≠ none → h2 b = H b) → Drop h2 H := fun h2 q b => by
    by_cases e : H b = none
    · exact .inl e
    · exact .inr (q b e).symm
  have hkH : ∀ b, H b ≠ none → hq b = H b := fun b hb => by
    rw [hK.keep b (by rw [hHx b hb]; exact hb) (fun m => hb (hfr b m)) (by simp), hHx b hb]
  by_cases hlt : n < S
  · have hwn : IntKind.i64.wrap ((n : Int) + 1) = (n : Int) + 1 := wrap_i64 (by omega) (by omega)
    obtain ⟨y, hy⟩ : ∃ y, y = d.st.getD n 0 := ⟨_, rfl⟩
    have hsl := hP.sl
    have hsn : (u8C d.st)[n]? = some (.int .u8 (y : Int)) := by rw [hy]; simp [u8C, show n < d.st.length from by omega]
    have hy1 : ¬ y = 1 := fun e => by have := (hP.wm n).2 ⟨hlt, by omega⟩; rw [hA.1] at this; simp at this
    have hy2 : y = 0 ∨ y = 2 := by have := hP.v n hlt; omega
    rcases hy2 with hy0 | hy0
    · have cg := w_good r hr joint bj hq hV.j n (by omega)
      have hyI : ¬ (0 : Int) < (y : Int) := by omega
      have hyN : ¬ 0 < y := by omega
      simp [h1, h2, h3, h4, h6, h22, h23, hlt, x1a, x4a, xSa, hsn, hyI, hyN]
      refine cg.use ?_
      simp [h1, h2, h3, h4, h6, h22, h23]
      cases hg : goodF r n with
      | true =>
        simp [h1, h2, h3, h4, h6, h22, h23]
        refine turnA_self ⟨⟨n + 1, d, o, hq⟩, by simp only; omega, by simp only; omega, hV, hP, ⟨hA.1, fun m hm => ?_⟩, hK, by simp [h1, h2, h3, h4, h6, h22, h23, hwn]⟩
        have hm' : m < n + 1 := hm
        by_cases e : m = n
        · subst e; exact .inl hg
        · exact hA.2 m (by omega)
      | false =>
        have hzz : zeros d ≤ S := by unfold zeros; rw [← hsl]; exact List.countP_le_length
        have hwl : ∀ i, i + 1 = d.way.length → n ∈ moveL r (d.way.getD i 0) joint := by intro i hi; rw [hA.1] at hi; simp at hi
        have cv := w_visit r hr joint S hS ⟨b1, b2, b3, b4, b5, b6, bj, bR, bS⟩ S d n o hq hV hP hlt hg (by omega) hzz hwl
        have hvok := visit_ok (by omega) hcl S d n hP hlt hg (by omega) hzz hwl
        obtain ⟨v, hv⟩ : ∃ v, v = visitF (goodF r) (fun n => moveL r n joint) S d n := ⟨_, rfl⟩
        rw [← hv] at cv hvok
        simp [h1, h2, h3, h4, h6, h22, h23, x6a]
        refine ACalls.mono cv ?_
        rintro _ hv6 ⟨rfl, o3, K3, hV3, hR3⟩
        have K4 := hK.trans K3
        cases hvk : v.ok with
        | true =>
          have D := hvok.1 hvk
          simp [h1, h2, h3, h4, h6, h22, h23]
          refine turnA_self ⟨⟨n + 1, v.d, o3, hv6⟩, by simp only; omega, by simp only; omega, hV3 hvk, D.pi, ⟨by rw [D.way]; exact hA.1, fun m hm => ?_⟩, K4, by simp [h1, h2, h3, h4, h6, h22, h23, hwn]⟩
          have hm' : m < n + 1 := hm
          by_cases e : m = n
          · subst e; exact .inr D.two
          · rcases hA.2 m (by omega) with q | q
            · exact .inl q
            · exact .inr (D.keep2 m (by omega) q)
        | false =>
          have hRP := hvok.2 hvk
          have x3 := hR3 hvk
          have x2 : Holds hv6 b2 [.osl bR 0 S 1] := V0.e2.eq (K4.keep b2 V0.e2.ne (by simp [BK.mut, n12, n21, n13, n31, n23, n32, m2, m2', hbS, hb5]) (by simp))
          simp [h1, h2, h3, h4, h6, h22, h23]
          refine awp_drawL (G0 := AHeap.empty) (A := fun _ => none) (by kernel_rfl) [] [0, 1, 2] ⟨0, fun _ _ => rfl⟩ (by kernel_rfl) (by kernel_rfl) (fun d q e => by cases e) ?_
          refine runL_plan (p := .ret (natsA v.round)) rfl rfl ?_ (by simp) ?_
          · simp [planA, pureA, h1, h2, h3, h4, h6, h22, h23]
            refine ⟨natsA v.round, ?_, rfl⟩
            rw [x3.at]; rfl
          · refine runL_plan (p := .put b2 (.cells [.nilsl]) .undef) rfl rfl ?_ ?_ ?_
            · simp [planA, h1, h2, h3, h4, h6, h22, h23, x2.at, splice]
              rw [show (Plan.ret (natsA v.round)).heap hv6 = hv6 from rfl, x2.at]; rfl
            · intro e he
              simp only [List.mem_singleton] at he
              subst he
              right
              simp [wrB, Plan.put, Plan.ret, accA, blkP, h1, h2, h3, h4, h6, h22, h23]
              exact n23
            · refine runL_plan (p := .put b3 (.cells [natsA v.round]) .undef) rfl rfl ?_ ?_ ?_
              · have x3' : (hv6.upd b2 (.cells [.nilsl])) b3 = some (.cells [natsA v.round]) := by rw [AHeap.upd_ne n32]; exact x3.at
                simp [planA, h1, h2, h3, h4, h6, h22, h23, Plan.ret, Plan.put, Plan.heap, -AHeap.upd_get, x3', splice]
              · intro e he
                simp only [List.mem_cons, List.not_mem_nil, or_false] at he
                left
                rcases he with rfl | rfl <;> kernel_rfl
              · simp [Plan.runK, Plan.run, Plan.put, Plan.ret, Plan.heap, runL, h1, h2, h3, h4, h6, h22, h23, n23]
                refine finA_same H (hdrop _ fun b hb => ?_) ⟨rfl, .inl ⟨v.round, rfl, hRP⟩⟩
                have f : ∀ x, H x = none → ¬ b = x := fun x hx e => hb (by rw [e]; exact hx)
                rw [AHeap.upd_ne (f b3 hb3), AHeap.upd_ne (f b2 hb2), K4.keep b (by rw [hHx b hb]; exact hb) (fun m => hb (hfr b m)) (by simp), hHx b hb]
    · have hyI : (0 : Int) < (y : Int) := by omega
      have hyN : 0 < y := by omega
      simp [h1, h2, h3, h4, h6, h22, h23, hlt, x4a, xSa, hsn, hyI, hyN]
      refine turnA_self ⟨⟨n + 1, d, o, hq⟩, by simp only; omega, by simp only; omega, hV, hP, ⟨hA.1, fun m hm => ?_⟩, hK, by simp [h1, h2, h3, h4, h6, h22, h23, hwn]⟩
      have hm' : m < n + 1 := hm
      by_cases e : m = n
      · subst e; right; show d.st.getD m 0 = 2; omega
      · exact hA.2 m (by omega)
  · have hne : n = S := by omega
    simp [h1, h2, h3, h4, h6, h22, h23, hlt, x2a, x3a, m1, m1', m2, m2', n23, n32]
    have hall : ∀ t, t < S → ∃ w : Nat, d.rank.getD t 0 = (w : Int) ∧ Rk (goodF r) (fun n => moveL r n joint) t w := by
      intro t ht
      rcases hA.2 t (by omega) with q | q
      · refine ⟨0, ?_, .good q⟩
        have h0 : d.st.getD t 0 = 0 := by
          rcases hP.v t ht with e | e | e
          · exact e
          · have := (hP.wm t).2 ⟨ht, e⟩; rw [hA.1] at this; simp at this
          · have := (hP.done t ht e).1; rw [q] at this; cases this
        exact hP.zero t ht h0
      · exact (hP.done t ht q).2
    have hrl := hP.rl
    obtain ⟨L, hL⟩ : ∃ L : List Nat, L = d.rank.map Int.toNat := ⟨_, rfl⟩
    have hLl : L.length = S := by rw [hL]; simp; omega
    have hLe : d.rank = L.map fun x : Nat => (x : Int) := by
      rw [hL, List.map_map]
      refine List.ext_getElem (by simp) fun i h1 h2 => ?_
      obtain ⟨w, hw, _⟩ := hall i (by omega)
      rw [show d.rank.getD i 0 = d.rank[i] from by simp [h1]] at hw
      simp only [List.getElem_map, Function.comp]
      omega
    have hRk : RkAll (goodF r) (fun n => moveL r n joint) S L := by
      refine ⟨hLl, fun t ht => ?_⟩
      obtain ⟨w, hw, hk⟩ := hall t ht
      rw [hLe] at hw
      have htl : t < L.length := by omega
      have : L.getD t 0 = w := by simp [htl] at hw ⊢; omega
      rw [this]; exact hk
    have hfe : Fresh H bR := hbR
    refine finA_to 2 H (hdrop _ fun b hb => ?_) ⟨rfl, .inr ⟨L, ?_, hRk⟩⟩
    · have f : ∀ x, H x = none → ¬ b = x := fun x hx e => hb (by rw [e]; exact hx)
      rw [AHeap.upd_ne (f b3 hb3), AHeap.upd_ne (f b2 hb2)]; exact hkH b hb
    · have hRc : cellsAt ((hq.upd b2 (.cells [.osl bR 0 S 1])).upd b3 (.cells [.nilsl])) bR 0 = some (d.rank.map (.int .i64)) := by
        have := (hV.eR.put (c := .cells [.osl bR 0 S 1]) m2).put (c := .cells [.nilsl]) m1
        have := this 0
        simpa using this
      simp [frz_osl hfe, hRc, hrl, hLl, natsA]
      rw [hLe]
      simp [Function.comp_def]
      rw [List.take_of_length_le (by simp; omega)]
end Go.Proofs

end

section
/-
  Ring: the greatest number; the first item of which something holds.
-/
namespace Go.Proofs
open Go Go.AH
set_option maxRecDepth 10000
set_option maxHeartbeats 4000000

theorem maxL_take {L : List Nat} {i : Nat} (hi : i < L.length) : maxL (L.take (i + 1)) = max (maxL (L.take i)) L[i] := by
  rw [List.take_succ_eq_append_getElem hi, maxL_append]
  simp [maxL]
theorem w_Max (L : List Nat) (hl : L.length ≤ 1000000) (hb : ∀ x ∈ L, x ≤ 1000000) (hne : ¬ L = []) : Pure Try.prog 78 [natsA L] (.int .i64 (maxL L : Nat)) := by
  refine pure_of (acalls_of Try.func78 rfl Try.call78 (by kernel_rfl) (by show _ ≤ (25 : Nat); simp) ?_)
  have hp : 0 < L.length := List.length_pos_iff.2 hne
  have h1 : ¬ (L.length : Int) < 1 := by omega
  have h0 : L.getD 0 0 = L[0] := by simp [hp]
  have g1 : ¬ L.length < 1 := by omega
  have hm1 : maxL (L.take 1) = L[0] := by
    rw [show (1 : Nat) = 0 + 1 from rfl, maxL_take hp]; simp [maxL]
  simp [natsA, h1, g1, hp, hne]
  refine awp_loop_g (γ := Nat) (fun i t h => (1 ≤ i ∧ i ≤ L.length) ∧ t 0 = .sl L.length (L.map fun x : Nat => .int .i64 (x : Int)) ∧ t 3 = .int .i64 (maxL (L.take i) : Nat) ∧ t 4 = .int .i64 i) (fun i => L.length - i) (1) (turnA_self (by simp [hm1, hp]; omega)) ?_
  rintro i t h ⟨hi, h0, h3, h4⟩
  obtain ⟨hi1, hi2⟩ := hi
  by_cases hlt : i < L.length
  · have hltI : (i : Int) < (L.length : Int) := by omega
    have hwi : IntKind.i64.wrap ((i : Int) + 1) = (i : Int) + 1 := wrap_i64 (by omega) (by omega)
    have hms := maxL_take hlt
    have hmx : (if maxL (L.take i) < L[i] then (L[i] : Int) else (maxL (L.take i) : Int)) = (maxL (L.take (i + 1)) : Nat) := by
      rw [hms]; split <;> omega
    simp [h0, h3, h4, hlt, hltI]
    exact turnA_self ⟨i + 1, by omega, by omega, by simp [h0, h3, h4, hwi, hmx]⟩
  · have hie : i = L.length := by omega
    have hltI : ¬ (i : Int) < (L.length : Int) := by omega
    simp [h0, h3, h4, hlt, hltI, hie]
    exact finA_drop rfl
theorem w_isEmpty (l : List Nat) : Pure Try.prog 76 [listA l] (.bool (decide (l = []))) := by
  refine pure_of (acalls_of Try.func76 rfl Try.call76 (by kernel_rfl) (by show _ ≤ (6 : Nat); simp) ?_)
  simp [-lenA, lenA_listA]
  refine finA_drop ?_
  cases l <;> rfl
/-- The first empty row, or -1. -/
theorem w_idxRows (n : Nat) (f : Nat → List Nat) (hl : n ≤ 1000000) (H : AHeap) :
    ACalls Try.prog 75 [.sl n ((List.range n).map fun k => listA (f k)), .fn (.func 76) [] []] H fun r h' => h' = H ∧ ((∃ k, k < n ∧ f k = [] ∧ (∀ m, m < k → ¬ f m = []) ∧ r = .int .i64 k) ∨ ((∀ m, m < n → ¬ f m = []) ∧ r = .int .i64 (-1))) := by
  refine acalls_of Try.func75 rfl Try.call75 (by kernel_rfl) (by show _ ≤ (19 : Nat); simp) ?_
  obtain ⟨L, hL⟩ : ∃ L, L = (List.range n).map fun k => listA (f k) := ⟨_, rfl⟩
  rw [← hL]
  have hLn : L.length = n := by rw [hL]; simp
  have hLg : ∀ k (h : k < L.length), L[k] = listA (f k) := by intro k h; simp [hL]
  simp
  refine awp_loop_g (γ := Nat) (fun k t h => (k ≤ n) ∧ (∀ m, m < k → ¬ f m = []) ∧ t 0 = .sl n L ∧ t 1 = .fn (.func 76) [] [] ∧ t 7 = .int .i64 n ∧ t 8 = .int .i64 k ∧ h = H) (fun k => n - k) (0) (turnA_self (by simp)) ?_
  rintro k t h ⟨hk, hno, h0, h1, h7, h8, rfl⟩
  by_cases hlt : k < n
  · have hw : IntKind.i64.wrap ((k : Int) + 1) = (k : Int) + 1 := wrap_i64 (by omega) (by omega)
    have hkL : k < L.length := by omega
    have hg := hLg k hkL
    have hone : (listA (f k)).one = true := by unfold listA; split <;> rfl
    have cv := w_isEmpty (f k)
    simp [h0, h1, h7, h8, hlt, hLn, hg]
    refine cv.use ?_
    simp
    refine condA_case ?_ ?_
    · intro hpk
      simp [h0, h1, h7, h8]
      exact finA_self ⟨rfl, .inl ⟨k, hlt, by simpa using hpk, hno, rfl⟩⟩
    · intro hpk
      simp [h0, h1, h7, h8]
      exact turnA_self ⟨k + 1, by omega, by omega, fun m hm => by
        by_cases e : m = k
        · subst e; simpa using hpk
        · exact hno m (by omega), by simp [h0, h1, h7, h8, hw]⟩
  · obtain rfl : k = n := by omega
    simp [h0, h1, h7, h8]
    exact finA_self ⟨rfl, .inr ⟨hno, rfl⟩⟩
end Go.Proofs

end

section
/-
  Ring: plain law: verdicts.
-/
namespace Go.Proofs
open Go Go.AH
set_option maxRecDepth 10000
set_option maxHeartbeats 4000000

def stuckF (r : Rul) (n : Nat) : Bool := decide (readyF r (ofF r.c r.m n) = [])
def leaveF (r : Rul) (joint : Bool) (n : Nat) : Bool := goodF r n && (moveL r n joint).any fun t => !goodF r t
/-- The verdicts: code, place, number, round, ranking. -/
inductive Verd (r : Rul) (joint : Bool) : Nat → Nat → Nat → AV → AV → Prop
  | stuck {n : Nat} : n < r.size → stuckF r n = true → (∀ m, m < n → stuckF r m = false) → Verd r joint 1 n 0 .nilsl .nilsl
  | leaves {n : Nat} : (∀ m, m < r.size → stuckF r m = false) → n < r.size → leaveF r joint n = true → (∀ m, m < n → leaveF r joint m = false) → Verd r joint 2 n 0 .nilsl .nilsl
  | lasso {ρ : List Nat} : (∀ m, m < r.size → stuckF r m = false) → (∀ m, m < r.size → leaveF r joint m = false) → RoundP (goodF r) (fun n => moveL r n joint) r.size ρ → Verd r joint 3 0 0 (natsA ρ) .nilsl
  | steady {L : List Nat} : (∀ m, m < r.size → stuckF r m = false) → (∀ m, m < r.size → leaveF r joint m = false) → RkAll (goodF r) (fun n => moveL r n joint) r.size L → Verd r joint 0 0 (maxL L) .nilsl (natsA L)

theorem first_det {p : Nat → Bool} {a b : Nat} (ha : p a = true) (ha2 : ∀ m, m < a → p m = false) (hb : p b = true) (hb2 : ∀ m, m < b → p m = false) : a = b := by
  rcases Nat.lt_trichotomy a b with h | h | h
  · have := hb2 a h; rw [ha] at this; cases this
  · exact h
  · have := ha2 b h; rw [hb] at this; cases this
theorem RoundP.not {good : Nat → Bool} {nx : Nat → List Nat} {S : Nat} {ρ : List Nat} (h : RoundP good nx S ρ) {L : List Nat} : ¬ RkAll good nx S L := by
  intro R
  have hp : 0 < ρ.length := List.length_pos_iff.2 h.ne
  have hm : ρ[0] ∈ ρ := List.getElem_mem hp
  refine (R.2 ρ[0] (h.lt _ hm)).not (S := fun x => x ∈ ρ) (fun x hx => ⟨h.bad x hx, ?_⟩) hm
  obtain ⟨i, hi, rfl⟩ := List.getElem_of_mem hx
  have hx := h.nxt i hi
  have hl : (i + 1) % ρ.length < ρ.length := Nat.mod_lt _ hp
  rw [show ρ.getD i 0 = ρ[i] from by simp [hi], show ρ.getD ((i + 1) % ρ.length) 0 = ρ[(i + 1) % ρ.length] from by simp [hl]] at hx
  exact ⟨_, hx, List.getElem_mem hl⟩
theorem Verd.det {r : Rul} {joint : Bool} {c a m c' a' m' : Nat} {ρ L ρ' L' : AV} (x : Verd r joint c a m ρ L) (y : Verd r joint c' a' m' ρ' L') : c = c' ∧ a = a' ∧ m = m' ∧ L = L' := by
  cases x with
  | stuck h1 h2 h3 => cases y with
    | stuck g1 g2 g3 => exact ⟨rfl, first_det h2 h3 g2 g3, rfl, rfl⟩
    | leaves g1 _ _ _ => rw [g1 _ h1] at h2; cases h2
    | lasso g1 _ _ => rw [g1 _ h1] at h2; cases h2
    | steady g1 _ _ => rw [g1 _ h1] at h2; cases h2
  | leaves h1 h2 h3 h4 => cases y with
    | stuck g1 g2 g3 => rw [h1 _ g1] at g2; cases g2
    | leaves g1 g2 g3 g4 => exact ⟨rfl, first_det h3 h4 g3 g4, rfl, rfl⟩
    | lasso _ g1 _ => rw [g1 _ h2] at h3; cases h3
    | steady _ g1 _ => rw [g1 _ h2] at h3; cases h3
  | lasso h1 h2 h3 => cases y with
    | stuck g1 g2 g3 => rw [h1 _ g1] at g2; cases g2
    | leaves g1 g2 g3 g4 => rw [h2 _ g2] at g3; cases g3
    | lasso _ g1 _ => exact ⟨rfl, rfl, rfl, rfl⟩
    | steady _ _ g1 => exact absurd g1 h3.not
  | steady h1 h2 h3 => cases y with
    | stuck g1 g2 g3 => rw [h1 _ g1] at g2; cases g2
    | leaves g1 g2 g3 g4 => rw [h2 _ g2] at g3; cases g3
    | lasso _ _ g1 => exact absurd h3 g1.not
    | steady _ _ g1 => rw [h3.det g1]; exact ⟨rfl, rfl, rfl, rfl⟩

/-! What a verdict means. -/
theorem Rk.inv {good : Nat → Bool} {nx : Nat → List Nat} {n v : Nat} (a : Rk good nx n v) (hb : good n = false) : ∀ t ∈ nx n, ∃ w, Rk good nx t w ∧ w < v := by
  intro t ht
  cases a with
  | good h => rw [hb] at h; cases h
  | step f _ hs hv =>
    refine ⟨f t, hs t ht, ?_⟩
    have : f t + 1 ∈ (nx n).map fun t => f t + 1 := List.mem_map.2 ⟨t, ht, rfl⟩
    have := maxL_ge this
    omega
theorem succ_move {r : Rul} (n : Nat) : moveL r n false = succF r n := by simp [moveL]
theorem joint_move {r : Rul} (n : Nat) : moveL r n true = jointF r n := by simp [moveL]
/-- Each step is a joint step. -/
theorem succ_joint {r : Rul} (hr : r.ok) {n t : Nat} (h : t ∈ succF r n) : t ∈ jointF r n := by
  rw [← nextF_true r n]
  rw [← nextF_false r hr n] at h
  obtain ⟨s, hs, rfl⟩ := List.mem_map.1 h
  obtain ⟨h1, h2⟩ := List.mem_filter.1 hs
  exact List.mem_map.2 ⟨s, List.mem_filter.2 ⟨h1, by simp⟩, rfl⟩
theorem step_other {r : Rul} (hr : r.ok) {l : List Nat} (hl : Cfg r l) : ∀ (ms : List Nat), (∀ i ∈ ms, i < r.m ∧ 0 ≤ takesF r l i) → ∀ (out : List Nat), out.length = l.length → ∀ j, j < r.m → ((j ∈ ms ∨ colF out j ≠ colF l j) → colF (ms.foldl (fun out i => out.set i (takesF r l i).toNat) out) j ≠ colF l j)
  | [], _, out, _, j, _, h => by rcases h with h | h; cases h; exact h
  | i :: ms, hm, out, ho, j, hj, h => by
    rw [List.foldl_cons]
    refine step_other hr hl ms (fun i hi => hm i (List.mem_cons_of_mem _ hi)) _ (by simp [ho]) j hj ?_
    by_cases e : i = j
    · subst e
      right
      obtain ⟨_, h0⟩ := hm i (by simp)
      have hne := hr.ne i (atF r l i)
      have hat : atF r l i / r.c % r.c = colF l i := by
        have h1 := colF_lt hl hr (i := (i + 1) % r.m) (Nat.mod_lt _ (by have := hr.m2; omega))
        have h2 := colF_lt hl hr hj
        unfold atF
        rw [Nat.add_comm, Nat.add_mul_div_right _ _ (by omega), Nat.div_eq_of_lt h1, Nat.zero_add, Nat.add_comm, Nat.add_mul_mod_self_right, Nat.mod_eq_of_lt h2]
      rw [hat] at hne
      intro q
      apply hne
      show takesF r l i = _
      have : colF (out.set i (takesF r l i).toNat) i = (takesF r l i).toNat := by
        have hlen := hl.len
        simp [colF, show i < out.length from by omega]
      rw [this] at q
      rw [← q]; omega
    · rcases h with h | h
      · rcases List.mem_cons.1 h with h | h
        · exact absurd h.symm e
        · exact .inl h
      · right
        rw [show colF (out.set i (takesF r l i).toNat) j = colF out j from by simp [colF, List.getElem?_set, e]]
        exact h
/-- No step leads where it began. -/
theorem move_ne {r : Rul} (hr : r.ok) (n : Nat) (joint : Bool) (hn : n < r.size) : n ∉ moveL r n joint := by
  have key : ∀ ms : List Nat, ms ≠ [] → (∀ i ∈ ms, i ∈ readyF r (ofF r.c r.m n)) → numF r.c (stepF r (ofF r.c r.m n) ms) ≠ n := by
    intro ms hne hms e
    have hcf := of_cfg hr n
    have hok : ∀ i ∈ ms, i < r.m ∧ 0 ≤ takesF r (ofF r.c r.m n) i := fun i hi => readyF_ok0 i (hms i hi)
    have hs := step_cfg hr hcf hok
    have e2 := cfg_of hr hs
    rw [e] at e2
    obtain ⟨j, hj⟩ := List.exists_mem_of_ne_nil ms hne
    have := step_other hr hcf ms hok (ofF r.c r.m n) rfl j (hok j hj).1 (.inl hj)
    apply this
    show colF (stepF r (ofF r.c r.m n) ms) j = _
    rw [← e2]
  intro h
  cases joint with
  | false =>
    rw [succ_move] at h
    obtain ⟨i, hi, e⟩ := List.mem_map.1 h
    exact key [i] (by simp) (by simpa using hi) e
  | true =>
    rw [joint_move] at h
    obtain ⟨s, hs, e⟩ := List.mem_map.1 h
    have h6 := readyF_len0 r (ofF r.c r.m n)
    have := hr.m6
    have hs := List.mem_range.1 hs
    have h64 := (pow_le64 (readyF r (ofF r.c r.m n)).length (by omega)).1
    refine key _ ?_ (fun i hi => pickS_mem i hi) e
    intro q
    exact pickI_ne (readyF r (ofF r.c r.m n)).length (by omega) (s + 1) (by omega) (by omega) (by omega) (List.map_eq_nil_iff.1 q)

def intL (l : List Nat) : List Int := l.map fun x : Nat => (x : Int)
theorem natsA_int (l : List Nat) (h : l ≠ []) : natsA l = listI (intL l) := by
  rw [listI_ne (by simpa [intL] using h), nats_ints]; rfl
theorem intL_getD (l : List Nat) (i : Nat) : (intL l).getD i 0 = ((l.getD i 0 : Nat) : Int) := by
  simp only [intL, List.getD_eq_getElem?_getD, List.getElem?_map]
  cases l[i]? <;> rfl
theorem RkAll.isRank {r : Rul} (hr : r.ok) {L : List Nat} (h : RkAll (goodF r) (fun n => moveL r n false) r.size L) : isRankF r (intL L) = true := by
  have hl : (intL L).length = r.size := by simp [intL, h.1]
  have hn : ((intL L).any fun x => decide (x < 0)) = false := by
    rw [List.any_eq_false]
    intro x hx
    obtain ⟨y, _, rfl⟩ := List.mem_map.1 hx
    simp
  unfold isRankF
  rw [hn]
  simp only [hl, decide_true, Bool.not_false, Bool.and_true, Bool.true_and]
  unfold fallOn
  rw [List.all_eq_true]
  intro n hn
  have hn := List.mem_range.1 hn
  cases hg : goodF r n with
  | true => rfl
  | false =>
    simp only [Bool.false_or]
    unfold fallF
    rw [List.all_eq_true]
    intro t ht
    obtain ⟨w, hw, hlt⟩ := (h.2 n hn).inv hg t (by show t ∈ moveL r n false; rw [succ_move]; exact ht)
    have := (h.2 t (succF_lt hr n t ht)).det hw
    rw [intL_getD, intL_getD]
    simp only [decide_eq_true_eq]
    omega
theorem hasF_mem {l : List Int} {x : Int} : hasF l x = true ↔ x ∈ l := by
  unfold hasF; rw [List.any_eq_true]; simp
theorem RoundP.isRound {r : Rul} (hr : r.ok) {ρ : List Nat} {joint jj : Bool} (h : RoundP (goodF r) (fun n => moveL r n joint) r.size ρ) (hj : joint = true → jj = true) : isRoundF r (intL ρ) jj = true ∧ 2 ≤ ρ.length := by
  have hp : 0 < ρ.length := List.length_pos_iff.2 h.ne
  have h2 : 2 ≤ ρ.length := by
    refine Nat.le_of_not_lt fun q => ?_
    have h1 : ρ.length = 1 := by omega
    have := h.nxt 0 hp
    rw [h1] at this
    have hb : ρ.getD 0 0 < r.size := by rw [show ρ.getD 0 0 = ρ[0] from by simp [hp]]; exact h.lt _ (List.getElem_mem hp)
    exact move_ne hr _ joint hb this
  refine ⟨?_, h2⟩
  unfold isRoundF
  have hl : (intL ρ).length = ρ.length := by simp [intL]
  rw [hl]
  simp only [h2, decide_true, Bool.true_and]
  rw [List.all_eq_true]
  intro i hi
  have hi := List.mem_range.1 hi
  have hgi : ρ.getD i 0 = ρ[i] := by simp [hi]
  have hm : ρ[i] ∈ ρ := List.getElem_mem hi
  have hx := h.nxt i hi
  rw [Bool.and_eq_true]
  constructor
  · unfold okAt
    rw [intL_getD, hgi]
    have b1 := h.lt _ hm
    have b2 := h.bad _ hm
    have b3 : hasF ((intL ρ).take i) (ρ[i] : Int) = false := by
      rw [Bool.eq_false_iff]
      intro q
      have q := hasF_mem.1 q
      rw [intL, ← List.map_take] at q
      obtain ⟨y, hy, e⟩ := List.mem_map.1 q
      have e : y = ρ[i] := by omega
      subst e
      obtain ⟨k, hk, e⟩ := List.getElem_of_mem hy
      rw [List.length_take] at hk
      rw [List.getElem_take] at e
      exact List.pairwise_iff_getElem.1 h.nd k i (by omega) hi (by omega) e
    rw [b3]
    simp only [Int.toNat_natCast, b2]
    simp; exact b1
  · unfold nextAt
    rw [intL_getD, hl, intL_getD, Int.toNat_natCast, hasF_mem]
    refine List.mem_map.2 ⟨_, ?_, rfl⟩
    cases joint with
    | true => rw [hj rfl]; exact hx
    | false =>
      cases jj with
      | false => exact hx
      | true => rw [joint_move]; rw [succ_move] at hx; exact succ_joint hr hx
end Go.Proofs

end

section
/-
  Ring: plain law: joint steps and steps; certificates of steadiness; rests.
-/
namespace Go.Proofs
open Go Go.AH
set_option maxRecDepth 10000
set_option maxHeartbeats 4000000

section
variable {good : Nat → Bool} {nx nx2 : Nat → List Nat} {S : Nat}
theorem Rk.le (hs : ∀ n, n < S → ∀ t ∈ nx n, t ∈ nx2 n) (hc : ∀ n, n < S → ∀ t ∈ nx n, t < S) {n v : Nat} (a : Rk good nx n v) : n < S → ∀ {w}, Rk good nx2 n w → v ≤ w := by
  induction a with
  | good h => intro _ w _; exact Nat.zero_le _
  | @step n v f h hr hv ih =>
    intro hn w b
    rcases Nat.eq_zero_or_pos v with e | e
    · omega
    · rw [hv] at e
      obtain ⟨t, ht, he⟩ := List.mem_map.1 (maxL_mem e)
      obtain ⟨u, hu, hl⟩ := b.inv h t (hs n hn t ht)
      have := ih t ht (hc n hn t ht) hu
      omega
theorem rk_fall (f : Nat → Nat) (hc : ∀ n, n < S → ∀ t ∈ nx n, t < S) (hf : ∀ n, n < S → good n = false → ∀ t ∈ nx n, good t = true ∨ f t < f n) : ∀ (k n : Nat), n < S → f n < k → ∃ v, Rk good nx n v
  | 0, n, _, h => absurd h (by omega)
  | k + 1, n, hn, h => by
    cases hg : good n with
    | true => exact ⟨0, .good hg⟩
    | false =>
      have : ∀ t, t ∈ nx n → ∃ v, Rk good nx t v := fun t ht => by
        rcases hf n hn hg t ht with q | q
        · exact ⟨0, .good q⟩
        · exact rk_fall f hc hf k t (hc n hn t ht) (by omega)
      exact ⟨_, .step (rkV good nx) hg (fun t ht => by obtain ⟨v, hv⟩ := this t ht; rw [rkV_eq hv]; exact hv) rfl⟩
theorem rkAll_fall (f : Nat → Nat) (hc : ∀ n, n < S → ∀ t ∈ nx n, t < S) (hf : ∀ n, n < S → good n = false → ∀ t ∈ nx n, good t = true ∨ f t < f n) : ∃ L, RkAll good nx S L := by
  refine ⟨(List.range S).map (rkV good nx), by simp, fun n hn => ?_⟩
  obtain ⟨v, hv⟩ := rk_fall f hc hf (f n + 1) n hn (by omega)
  rw [show ((List.range S).map (rkV good nx)).getD n 0 = rkV good nx n from by simp [hn], rkV_eq hv]; exact hv
end
theorem maxL_le {L M : List Nat} (hl : L.length = M.length) (h : ∀ i, i < L.length → L.getD i 0 ≤ M.getD i 0) : maxL L ≤ maxL M := by
  rcases Nat.eq_zero_or_pos (maxL L) with e | e
  · omega
  · obtain ⟨i, hi, q⟩ := List.getElem_of_mem (maxL_mem e)
    have := h i hi
    rw [show L.getD i 0 = L[i] from by simp [hi], q, show M.getD i 0 = M[i]'(by omega) from by simp [show i < M.length from by omega]] at this
    exact Nat.le_trans this (maxL_ge (List.getElem_mem (by omega)))
/-- What is steady in joint steps is steady. -/
theorem Verd.joint {r : Rul} (hr : r.ok) {a m c' a' m' : Nat} {ρ L ρ' L' : AV} (x : Verd r true 0 a m ρ L) (y : Verd r false c' a' m' ρ' L') : c' = 0 ∧ m' ≤ m := by
  have hsub : ∀ n, ∀ t ∈ moveL r n false, t ∈ moveL r n true := fun n t ht => by rw [joint_move]; rw [succ_move] at ht; exact succ_joint hr ht
  cases x with
  | @steady L h1 h2 h3 =>
    cases y with
    | stuck g1 g2 g3 => rw [h1 _ g1] at g2; cases g2
    | leaves g1 g2 g3 g4 =>
      exfalso
      have h := h2 _ g2
      unfold leaveF at h g3
      rw [Bool.and_eq_true, List.any_eq_true] at g3
      obtain ⟨q1, t, q2, q3⟩ := g3
      rw [q1, Bool.true_and, List.any_eq_false] at h
      exact h t (hsub _ t q2) q3
    | lasso _ _ g3 =>
      exact absurd h3 (RoundP.not ⟨g3.ne, g3.nd, g3.lt, g3.bad, fun i hi => hsub _ _ (g3.nxt i hi)⟩)
    | @steady L2 _ _ g3 =>
      refine ⟨rfl, maxL_le (by rw [g3.1, h3.1]) fun i hi => ?_⟩
      have hi' : i < r.size := by rw [← g3.1]; exact hi
      exact (g3.2 i hi').le (fun n _ => hsub n) (fun n _ => moveL_lt hr n false) hi' (h3.2 i hi')
theorem Verd.of_cert {r : Rul} (hr : r.ok) {joint : Bool} (f : Nat → Nat) (h1 : ∀ n, n < r.size → stuckF r n = false) (h2 : ∀ n, n < r.size → leaveF r joint n = false) (h3 : ∀ n, n < r.size → goodF r n = false → ∀ t ∈ moveL r n joint, goodF r t = true ∨ f t < f n)
    {c a m : Nat} {ρ L : AV} (v : Verd r joint c a m ρ L) : c = 0 := by
  obtain ⟨M, hM⟩ := rkAll_fall f (fun n _ => moveL_lt hr n joint) h3
  exact (v.det (.steady h1 h2 hM)).1
/-- In a steady protocol the numbers fall, and what is good stays so. -/
theorem Verd.rest {r : Rul} (hr : r.ok) {a m : Nat} {ρ L : AV} (v : Verd r false 0 a m ρ L) : ∃ f : Nat → Nat, (∀ n, n < r.size → f n ≤ m) ∧ (∀ n, n < r.size → (f n = 0 ↔ goodF r n = true)) ∧ (∀ n, n < r.size → stuckF r n = false) ∧ ∀ n, n < r.size → ∀ t ∈ succF r n, t < r.size ∧ f t ≤ f n - 1 := by
  cases v with
  | @steady L h1 h2 h3 =>
    have hz : ∀ n, n < r.size → (L.getD n 0 = 0 ↔ goodF r n = true) := by
      intro n hn
      have hk := h3.2 n hn
      constructor
      · intro e
        cases hg : goodF r n with
        | true => rfl
        | false =>
          exfalso
          have hst := h1 n hn
          unfold stuckF at hst
          have hst : ¬ readyF r (ofF r.c r.m n) = [] := by simpa using hst
          obtain ⟨i, hi⟩ := List.exists_mem_of_ne_nil _ hst
          obtain ⟨w, _, hw⟩ := hk.inv hg (numF r.c (stepF r (ofF r.c r.m n) [i])) (by show _ ∈ moveL r n false; rw [succ_move]; exact List.mem_map.2 ⟨i, hi, rfl⟩)
          omega
      · intro e; exact hk.det (.good e)
    refine ⟨fun n => L.getD n 0, fun n hn => ?_, hz, h1, fun n hn t ht => ?_⟩
    · have : n < L.length := by rw [h3.1]; exact hn
      show L.getD n 0 ≤ _
      rw [show L.getD n 0 = L[n] from by simp [this]]
      exact maxL_ge (List.getElem_mem this)
    · have htS := succF_lt hr n t ht
      refine ⟨htS, ?_⟩
      show L.getD t 0 ≤ L.getD n 0 - 1
      cases hg : goodF r n with
      | true =>
        have hl := h2 n hn
        unfold leaveF at hl
        rw [hg, Bool.true_and, List.any_eq_false] at hl
        have := hl t (by rw [succ_move]; exact ht)
        have := (hz t htS).2 (by simpa using this)
        omega
      | false =>
        obtain ⟨w, hw, hlt⟩ := (h3.2 n hn).inv hg t (by show t ∈ moveL r n false; rw [succ_move]; exact ht)
        have := (h3.2 t htS).det hw
        omega
end Go.Proofs

end
