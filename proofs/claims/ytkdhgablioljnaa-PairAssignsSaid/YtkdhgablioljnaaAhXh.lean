/-
  The evaluator's heap and the layer's.
-/
import Derived.Test.YtkdhgablioljnaaAhXs
set_option linter.unusedSimpArgs false
set_option linter.unusedVariables false
set_option linter.unusedSectionVars false
namespace Go.AH
open Go

structure Agr (n : Nat) (ρ ρ' : Rn) : Prop where
  at' : ∀ i, i < n → ρ.b i = ρ'.b i ∧ ρ.p i = ρ'.p i ∧ ρ.r i = ρ'.r i
  lo : ρ.lo = ρ'.lo
  g : ρ.g = ρ'.g
instance {n : Nat} {ρ ρ' : Rn} : CoeFun (Agr n ρ ρ') (fun _ => ∀ i, i < n → ρ.b i = ρ'.b i ∧ ρ.p i = ρ'.p i ∧ ρ.r i = ρ'.r i) := ⟨Agr.at'⟩
theorem Agr.refl (n : Nat) (ρ : Rn) : Agr n ρ ρ := ⟨fun _ _ => ⟨rfl, rfl, rfl⟩, rfl, rfl⟩
theorem Agr.trans {n n' : Nat} {ρ ρ' ρ2 : Rn} (a : Agr n ρ ρ') (b : Agr n' ρ' ρ2) (h : n ≤ n') : Agr n ρ ρ2 := ⟨fun i hi => by
  obtain ⟨a1, a2, a3⟩ := a i hi
  obtain ⟨b1, b2, b3⟩ := b i (Nat.lt_of_lt_of_le hi h)
  exact ⟨a1.trans b1, a2.trans b2, a3.trans b3⟩, a.lo.trans b.lo, a.g.trans b.g⟩

theorem Agr.new {n b : Nat} {r : Loop × AF} {ρ : Rn} : Agr n ρ { b := fun i => if i = n then b else ρ.b i, p := fun i => if i = n then [] else ρ.p i, r := fun i => if i = n then r else ρ.r i, lo := ρ.lo, g := ρ.g } :=
  ⟨fun i hi => by
    have : i ≠ n := by omega
    simp [this], rfl, rfl⟩

section
variable {n n' : Nat} {ρ ρ' : Rn}

theorem bdL_cons {a : AV} {as : List AV} : AV.bdL n (a :: as) = (AV.bd n a && AV.bdL n as) := by simp [AV.bdL]
theorem bdL_iff (l : List AV) : AV.bdL n l = true ↔ ∀ a ∈ l, a.bd n = true := by
  induction l with
  | nil => simp [AV.bdL]
  | cons a as ih => simp [bdL_cons, ih]
theorem bdE_iff (l : List (AV × AV)) : AV.bdE n l = true ↔ ∀ e ∈ l, e.1.bd n = true ∧ e.2.bd n = true := by
  induction l with
  | nil => simp [AV.bdE]
  | cons a as ih => simp [AV.bdE, ih, and_assoc]

mutual
theorem ren_agr (ag : Agr n ρ ρ') : ∀ v : AV, v.bd n = true → ren ρ v = ren ρ' v
  | .sl m cs, h => by simp only [AV.bd] at h; simp only [ren, renL_agr ag cs h]
  | .osl b off m es, h => by
    simp only [AV.bd, Nat.blt_eq] at h
    obtain ⟨h1, h2, _⟩ := ag b h
    simp only [ren, Rn.s, h1, h2]
  | .ptr b off, h => by
    simp only [AV.bd, Nat.blt_eq] at h
    obtain ⟨h1, h2, _⟩ := ag b h
    simp only [ren, Rn.s, h1, h2]
  | .fptr cs, h => by simp only [AV.bd] at h; simp only [ren, renL_agr ag cs h]
  | .map b, h => by
    simp only [AV.bd, Nat.blt_eq] at h
    simp only [ren, (ag b h).1]
  | .fn f fa ca, h => by
    simp only [AV.bd, Bool.and_eq_true] at h
    obtain ⟨⟨h1, h2⟩, h3⟩ := h
    simp only [ren, renL_agr ag fa h2, renL_agr ag ca h3]
    cases f <;> first | rfl | (simp only [Nat.blt_eq] at h1; simp only [(ag _ h1).1]) | cases h1
  | .iface t v, h => by simp only [AV.bd] at h; simp only [ren, ren_agr ag v h]
  | .agg cs, h => by simp only [AV.bd] at h; simp only [ren, renL_agr ag cs h]
  | .tup cs, h => by simp only [AV.bd] at h; simp only [ren, renL_agr ag cs h]
  | .undef, _ => rfl
  | .bool b, _ => rfl
  | .int k n, _ => rfl
  | .str s, _ => rfl
  | .nilsl, _ => rfl
  | .nilptr, _ => rfl
  | .nilmap, _ => rfl
  | .nilfn, _ => rfl
  | .nilif, _ => rfl
theorem renL_agr (ag : Agr n ρ ρ') : ∀ l : List AV, AV.bdL n l = true → renL ρ l = renL ρ' l
  | [], _ => rfl
  | a :: as, h => by
    rw [bdL_cons, Bool.and_eq_true] at h
    simp only [renL, ren_agr ag a h.1, renL_agr ag as h.2]
end

mutual
theorem bd_mono (hn : n ≤ n') : ∀ v : AV, v.bd n = true → v.bd n' = true
  | .sl m cs, h => by simp only [AV.bd] at h ⊢; exact bdL_mono hn cs h
  | .osl b off m es, h => by simp only [AV.bd, Nat.blt_eq] at h ⊢; omega
  | .ptr b off, h => by simp only [AV.bd, Nat.blt_eq] at h ⊢; omega
  | .fptr cs, h => by simp only [AV.bd] at h ⊢; exact bdL_mono hn cs h
  | .map b, h => by simp only [AV.bd, Nat.blt_eq] at h ⊢; omega
  | .fn f fa ca, h => by
    simp only [AV.bd, Bool.and_eq_true] at h ⊢
    obtain ⟨⟨h1, h2⟩, h3⟩ := h
    refine ⟨⟨?_, bdL_mono hn fa h2⟩, bdL_mono hn ca h3⟩
    cases f <;> first | exact h1 | (simp only [Nat.blt_eq] at h1 ⊢; omega)
  | .iface t v, h => by simp only [AV.bd] at h ⊢; exact bd_mono hn v h
  | .agg cs, h => by simp only [AV.bd] at h ⊢; exact bdL_mono hn cs h
  | .tup cs, h => by simp only [AV.bd] at h ⊢; exact bdL_mono hn cs h
  | .undef, _ => by simp [AV.bd]
  | .bool b, _ => by simp [AV.bd]
  | .int k n, _ => by simp [AV.bd]
  | .str s, _ => by simp [AV.bd]
  | .nilsl, _ => by simp [AV.bd]
  | .nilptr, _ => by simp [AV.bd]
  | .nilmap, _ => by simp [AV.bd]
  | .nilfn, _ => by simp [AV.bd]
  | .nilif, _ => by simp [AV.bd]
theorem bdL_mono (hn : n ≤ n') : ∀ l : List AV, AV.bdL n l = true → AV.bdL n' l = true
  | [], _ => by simp [AV.bdL]
  | a :: as, h => by
    rw [bdL_cons, Bool.and_eq_true] at h ⊢
    exact ⟨bd_mono hn a h.1, bdL_mono hn as h.2⟩
end
theorem bdE_mono (hn : n ≤ n') (l : List (AV × AV)) (h : AV.bdE n l = true) : AV.bdE n' l = true := by
  rw [bdE_iff] at h ⊢
  exact fun e he => ⟨bd_mono hn _ (h e he).1, bd_mono hn _ (h e he).2⟩

theorem map_agr (ag : Agr n ρ ρ') {l : List AV} (h : AV.bdL n l = true) : l.map (ren ρ) = l.map (ren ρ') := by
  have := renL_agr ag l h; simpa using this

/-! ### Blocks -/
def LoopOk (r : Loop) (ps : Array Nat) (as b : Code) (N : Nat) : Prop := r.state = .ready ∧ r.pending = none ∧ r.tmps.size = N ∧ r.params = ps ∧ r.assign = as ∧ r.body = b

def CR (ρ : Rn) (i : Nat) : XC → Option Chunk → Prop
  | .cells n t, c => c = some (.cells (ρ.p i ++ (t.take n 0).map (ren ρ)))
  | .map sh es, c => ρ.p i = [] ∧ c = some (.map sh (es.map fun e => (ren ρ e.1, ren ρ e.2)))
  | .sit s p, c => ρ.p i = [] ∧ c = some (.sit s p)
  | .loop ps as b N t j, c => ρ.p i = [] ∧ LoopOk (ρ.r i).1 ps as b N ∧ (ρ.r i).2 = renF ρ t.at ∧ c = some (.loop (recOf (ρ.r i).1 j) (ρ.r i).2)
  | .gone, _ => True
def XC.ok (n : Nat) : XC → Prop
  | .cells m t => m ≤ 2048 ∧ t.wf 11 ∧ AV.bdL n (t.take m 0) = true
  | .map sh es => AV.bdE n es = true ∧ ∀ e ∈ es, sh.ok e.1 = true
  | .sit _ _ => True
  | .loop _ _ _ _ t _ => t.wf 8 ∧ ∀ i, (t.getU i).bd n = true
  | .gone => True

theorem XC.ok_mono (hn : n ≤ n') : ∀ c : XC, c.ok n → c.ok n'
  | .cells _ _, h => ⟨h.1, h.2.1, bdL_mono hn _ h.2.2⟩
  | .map _ _, h => ⟨bdE_mono hn _ h.1, h.2⟩
  | .sit _ _, _ => trivial
  | .loop _ _ _ _ _ _, h => ⟨h.1, fun i => bd_mono hn _ (h.2 i)⟩
  | .gone, _ => trivial

theorem renF_agr (ag : Agr n ρ ρ') {t : AF} (h : ∀ i, (t i).bd n = true) : renF ρ t = renF ρ' t := by
  funext i; exact ren_agr ag _ (h i)

theorem CR.agr (ag : Agr n ρ ρ') {i : Nat} (hi : i < n) {c : XC} (ok : c.ok n) {C : Option Chunk} (h : CR ρ i c C) : CR ρ' i c C := by
  obtain ⟨a1, a2, a3⟩ := ag i hi
  cases c with
  | cells m t =>
    show C = _
    rw [show C = _ from h, map_agr ag ok.2.2, a2]
  | map sh es =>
    refine ⟨a2 ▸ h.1, ?_⟩
    rw [h.2]
    congr 2
    apply List.map_congr_left
    intro e he
    have := (bdE_iff es).1 ok.1 e he
    rw [ren_agr ag _ this.1, ren_agr ag _ this.2]
  | sit s p => exact ⟨a2 ▸ h.1, h.2⟩
  | loop ps as b N t j => exact ⟨a2 ▸ h.1, a3 ▸ h.2.1, by rw [← a3, h.2.2.1, renF_agr (t := t.at) ag ok.2], by rw [h.2.2.2, a3]⟩
  | gone => trivial

theorem CR.cells0 {i n : Nat} {t : Tr AV} {C : Option Chunk} (hp : ρ.p i = []) (e : C = some (.cells ([] ++ (t.take n 0).map (ren ρ)))) : CR ρ i (.cells n t) C := by
  show C = _
  rw [hp]; exact e
theorem CR.some {i : Nat} {c : XC} {C : Option Chunk} (h : CR ρ i c C) (hc : c ≠ .gone) : C ≠ none := by
  cases c with
  | cells m t => rw [show C = _ from h]; simp
  | map sh es => rw [h.2]; simp
  | sit s p => rw [h.2]; simp
  | loop ps as b N t j => rw [h.2.2.2]; simp
  | gone => exact absurd rfl hc

structure HRep (ρ : Rn) (h : XH) (H : AHeap) : Prop where
  wf : h.m.wf 14
  sm : h.n ≤ 16383
  ok : ∀ i, (h.get i).ok h.n
  cr : ∀ i, CR ρ i (h.get i) (H (ρ.b i))
  inj : ∀ i j, h.get i ≠ .gone → h.get j ≠ .gone → ρ.b i = ρ.b j → i = j
  ex : ∀ b, H b ≠ none → ∃ i, h.get i ≠ .gone ∧ ρ.b i = b
  s0 : ∀ i, i < h.n → h.sh.contains i = false → ρ.p i = []
  gl : h.lo = ρ.lo
  gn : ρ.lo ≤ h.n
  gg : ∀ i, i < ρ.lo → h.get i = ρ.g i

variable {h : XH} {H : AHeap}
theorem XH.get_eq (h : XH) (b : Nat) : h.get b = if b < h.n then (h.m.get b).getD .gone else .gone := by
  unfold XH.get
  by_cases e : b < h.n
  · rw [if_pos e, Nat.blt_eq.mpr e]
  · rw [if_neg e]
    have : Nat.blt b h.n = false := by cases hb : Nat.blt b h.n with | false => rfl | true => exact absurd (Nat.blt_eq.mp hb) e
    rw [this]
theorem XH.get_lt {h : XH} {b : Nat} (e : h.get b ≠ .gone) : b < h.n := by
  rw [XH.get_eq] at e
  split at e
  · assumption
  · exact absurd rfl e

theorem XH.get_set (wf : h.m.wf 14) (sm : h.n ≤ 16383) {b : Nat} (hb : b < h.n) (c : XC) (i : Nat) : XH.get { m := h.m.put 14 b c, n := h.n, lo := h.lo, sh := h.sh } i = if i = b then c else h.get i := by
  rw [XH.get_eq, XH.get_eq]
  simp only
  rw [Tr.get_put 14 h.m b i c wf (by omega)]
  by_cases e : i = b
  · subst e; simp [hb]
  · simp [e]
theorem XH.get_new {sh : List Nat} (wf : h.m.wf 14) (sm : h.n < 16383) (c : XC) (i : Nat) : XH.get { m := h.m.put 14 h.n c, n := Nat.add h.n 1, lo := h.lo, sh := sh } i = if i = h.n then c else h.get i := by
  rw [XH.get_eq, XH.get_eq]
  have e1 : Nat.add h.n 1 = h.n + 1 := rfl
  simp only [e1]
  rw [Tr.get_put 14 h.m h.n i c wf (by omega)]
  by_cases e : i = h.n
  · subst e; simp
  · by_cases e2 : i < h.n
    · rw [if_pos (by omega), if_neg e, if_neg e, if_pos e2]
    · rw [if_neg (by omega), if_neg e, if_neg e2]

theorem HRep.none_of (R : HRep ρ h H) {i b : Nat} (hb : H b = none) (hi : h.get i ≠ .gone) : ρ.b i ≠ b := fun e => by
  have := (R.cr i).some hi
  rw [e] at this; exact this hb

/-- A new block, which may begin elsewhere. -/
theorem HRep.newP (R : HRep ρ h H) (sm : h.n < 16383) {b : Nat} (pre : List AV) (sh : List Nat) (hsh : ∀ i, sh.contains i = false → h.sh.contains i = false) (hpre : sh.contains h.n = false → pre = []) (hb : H b = none) {c : XC} {C : Chunk} (hcg : c ≠ .gone) (hc : c.ok (h.n + 1)) (r : Loop × AF)
    (hC : CR { b := fun i => if i = h.n then b else ρ.b i, p := fun i => if i = h.n then pre else ρ.p i, r := fun i => if i = h.n then r else ρ.r i, lo := ρ.lo, g := ρ.g } h.n c (some C)) :
    ∃ ρ', Agr h.n ρ ρ' ∧ ρ'.b h.n = b ∧ ρ'.p h.n = pre ∧ ρ'.r h.n = r ∧ HRep ρ' { m := h.m.put 14 h.n c, n := Nat.add h.n 1, lo := h.lo, sh := sh } (H.upd b C) := by
  have ag : Agr h.n ρ { b := fun i => if i = h.n then b else ρ.b i, p := fun i => if i = h.n then pre else ρ.p i, r := fun i => if i = h.n then r else ρ.r i, lo := ρ.lo, g := ρ.g } := ⟨fun i hi => by
    have : i ≠ h.n := by omega
    simp [this], rfl, rfl⟩
  refine ⟨_, ag, by simp, by simp, by simp, Tr.put_wf _ _ _ _ R.wf, by show h.n + 1 ≤ _; omega, fun i => ?_, fun i => ?_, fun i j hi hj => ?_, fun b' hb' => ?_, fun i hi hc => by
      simp only
      by_cases e : i = h.n
      · subst e; rw [if_pos rfl]; exact hpre hc
      · rw [if_neg e]; exact R.s0 i (by have : i < h.n + 1 := hi; omega) (hsh i hc), R.gl, Nat.le_succ_of_le R.gn, fun i hi => by rw [XH.get_new R.wf sm, if_neg (by have := R.gn; simp only at hi; omega)]; exact R.gg i hi⟩
  · rw [XH.get_new R.wf sm]
    split
    · exact hc
    · exact XC.ok_mono (Nat.le_succ _) _ (R.ok i)
  · rw [XH.get_new R.wf sm]
    by_cases e : i = h.n
    · subst e; simpa using hC
    · rw [if_neg e]
      by_cases hg : h.get i = .gone
      · rw [hg]; trivial
      · have := R.none_of hb hg
        simp only [if_neg e]
        rw [AHeap.upd_ne this]
        exact (R.cr i).agr ag (XH.get_lt hg) (R.ok i)
  · rw [XH.get_new R.wf sm] at hi hj
    simp only
    by_cases e : i = h.n <;> by_cases e' : j = h.n
    · intro _; rw [e, e']
    · rw [if_neg e'] at hj; simp only [if_pos e, if_neg e']; intro q; exact absurd q.symm (R.none_of hb hj)
    · rw [if_neg e] at hi; simp only [if_neg e, if_pos e']; intro q; exact absurd q (R.none_of hb hi)
    · rw [if_neg e] at hi; rw [if_neg e'] at hj; simp only [if_neg e, if_neg e']; exact R.inj i j hi hj
  · by_cases e : b' = b
    · refine ⟨h.n, ?_, by simp [e]⟩
      rw [XH.get_new R.wf sm, if_pos rfl]
      exact hcg
    · rw [AHeap.upd_ne e] at hb'
      obtain ⟨i, hi, hib⟩ := R.ex b' hb'
      have hlt := XH.get_lt hi
      refine ⟨i, ?_, ?_⟩
      · rw [XH.get_new R.wf sm, if_neg (by omega)]; exact hi
      · simp only [if_neg (show ¬ i = h.n by omega)]; exact hib

/-- A new block. -/
theorem HRep.new (R : HRep ρ h H) (sm : h.n < 16383) {b : Nat} (hb : H b = none) {c : XC} {C : Chunk} (hcg : c ≠ .gone) (hc : c.ok (h.n + 1)) (r : Loop × AF)
    (hC : CR { b := fun i => if i = h.n then b else ρ.b i, p := fun i => if i = h.n then [] else ρ.p i, r := fun i => if i = h.n then r else ρ.r i, lo := ρ.lo, g := ρ.g } h.n c (some C)) :
    ∃ ρ', Agr h.n ρ ρ' ∧ ρ'.b h.n = b ∧ ρ'.s h.n = 0 ∧ ρ'.r h.n = r ∧ HRep ρ' { m := h.m.put 14 h.n c, n := Nat.add h.n 1, lo := h.lo, sh := h.sh } (H.upd b C) := by
  obtain ⟨ρ', a1, a2, a3, a4, a5⟩ := R.newP sm [] h.sh (fun _ q => q) (fun _ => rfl) hb hcg hc r hC
  exact ⟨ρ', a1, a2, by unfold Rn.s; rw [a3]; rfl, a4, a5⟩

/-- A block's contents turn. -/
theorem HRep.set (R : HRep ρ h H) {i : Nat} (hlo : h.lo ≤ i) (hi : h.get i ≠ .gone) {c : XC} {C : Chunk} (hcg : c ≠ .gone) (hc : c.ok h.n) (hC : CR ρ i c (some C)) : HRep ρ { m := h.m.put 14 i c, n := h.n, lo := h.lo, sh := h.sh } (H.upd (ρ.b i) C) := by
  have hlt := XH.get_lt hi
  refine ⟨Tr.put_wf _ _ _ _ R.wf, R.sm, fun j => ?_, fun j => ?_, fun j k hj hk => ?_, fun b hb => ?_, R.s0, R.gl, R.gn, fun j hj => by rw [XH.get_set R.wf R.sm hlt, if_neg (by have := R.gl; omega)]; exact R.gg j hj⟩
  · rw [XH.get_set R.wf R.sm hlt]
    split
    · exact hc
    · exact R.ok j
  · rw [XH.get_set R.wf R.sm hlt]
    by_cases e : j = i
    · subst e; simpa using hC
    · rw [if_neg e]
      by_cases hg : h.get j = .gone
      · rw [hg]; trivial
      · rw [AHeap.upd_ne (fun q => e (R.inj j i hg hi q))]
        exact R.cr j
  · rw [XH.get_set R.wf R.sm hlt] at hj hk
    have hj' : h.get j ≠ .gone := by
      by_cases e : j = i
      · subst e; exact hi
      · rw [if_neg e] at hj; exact hj
    have hk' : h.get k ≠ .gone := by
      by_cases e : k = i
      · subst e; exact hi
      · rw [if_neg e] at hk; exact hk
    exact R.inj j k hj' hk'
  · by_cases e : b = ρ.b i
    · exact ⟨i, by rw [XH.get_set R.wf R.sm hlt, if_pos rfl]; exact hcg, e.symm⟩
    · rw [AHeap.upd_ne e] at hb
      obtain ⟨j, hj, hjb⟩ := R.ex b hb
      have : j ≠ i := fun q => e (by rw [← hjb, q])
      exact ⟨j, by rw [XH.get_set R.wf R.sm hlt, if_neg this]; exact hj, hjb⟩

/-- A block is given up. -/
theorem HRep.del (R : HRep ρ h H) {i : Nat} (hlo : h.lo ≤ i) (hi : h.get i ≠ .gone) : HRep ρ { m := h.m.put 14 i .gone, n := h.n, lo := h.lo, sh := h.sh } (H.del (ρ.b i)) := by
  have hlt := XH.get_lt hi
  have key : ∀ j, XH.get { m := h.m.put 14 i .gone, n := h.n, lo := h.lo, sh := h.sh } j ≠ .gone → j ≠ i ∧ h.get j ≠ .gone := by
    intro j hj
    rw [XH.get_set R.wf R.sm hlt] at hj
    by_cases e : j = i
    · rw [if_pos e] at hj; exact absurd rfl hj
    · rw [if_neg e] at hj; exact ⟨e, hj⟩
  refine ⟨Tr.put_wf _ _ _ _ R.wf, R.sm, fun j => ?_, fun j => ?_, fun j k hj hk => R.inj j k (key j hj).2 (key k hk).2, fun b hb => ?_, R.s0, R.gl, R.gn, fun j hj => by rw [XH.get_set R.wf R.sm hlt, if_neg (by have := R.gl; omega)]; exact R.gg j hj⟩
  · rw [XH.get_set R.wf R.sm hlt]
    split
    · trivial
    · exact R.ok j
  · rw [XH.get_set R.wf R.sm hlt]
    by_cases e : j = i
    · rw [if_pos e]; trivial
    · rw [if_neg e]
      by_cases hg : h.get j = .gone
      · rw [hg]; trivial
      · rw [AHeap.del_ne (fun q => e (R.inj j i hg hi q))]
        exact R.cr j
  · by_cases e : b = ρ.b i
    · rw [e, AHeap.del_same] at hb; exact absurd rfl hb
    · rw [AHeap.del_ne e] at hb
      obtain ⟨j, hj, hjb⟩ := R.ex b hb
      have : j ≠ i := fun q => e (by rw [← hjb, q])
      exact ⟨j, by rw [XH.get_set R.wf R.sm hlt, if_neg this]; exact hj, hjb⟩

/-- A block comes back. -/
theorem HRep.back (R : HRep ρ h H) {i : Nat} (hlo : h.lo ≤ i) (hlt : i < h.n) (hg : h.get i = .gone) (hn : H (ρ.b i) = none) {c : XC} {C : Chunk} (hcg : c ≠ .gone) (hc : c.ok h.n) (hC : CR ρ i c (some C)) :
    HRep ρ { m := h.m.put 14 i c, n := h.n, lo := h.lo, sh := h.sh } (H.upd (ρ.b i) C) := by
  have ne : ∀ j, h.get j ≠ .gone → ρ.b j ≠ ρ.b i := fun j hj => R.none_of hn hj
  refine ⟨Tr.put_wf _ _ _ _ R.wf, R.sm, fun j => ?_, fun j => ?_, fun j k hj hk => ?_, fun b hb => ?_, R.s0, R.gl, R.gn, fun j hj => by rw [XH.get_set R.wf R.sm hlt, if_neg (by have := R.gl; omega)]; exact R.gg j hj⟩
  · rw [XH.get_set R.wf R.sm hlt]
    split
    · exact hc
    · exact R.ok j
  · rw [XH.get_set R.wf R.sm hlt]
    by_cases e : j = i
    · subst e; simpa using hC
    · rw [if_neg e]
      by_cases hg : h.get j = .gone
      · rw [hg]; trivial
      · rw [AHeap.upd_ne (ne j hg)]
        exact R.cr j
  · rw [XH.get_set R.wf R.sm hlt] at hj hk
    by_cases e : j = i <;> by_cases e' : k = i
    · intro _; rw [e, e']
    · rw [if_neg e'] at hk; subst e; intro q; exact absurd q.symm (ne k hk)
    · rw [if_neg e] at hj; subst e'; intro q; exact absurd q (ne j hj)
    · rw [if_neg e] at hj; rw [if_neg e'] at hk; exact R.inj j k hj hk
  · by_cases e : b = ρ.b i
    · exact ⟨i, by rw [XH.get_set R.wf R.sm hlt, if_pos rfl]; exact hcg, e.symm⟩
    · rw [AHeap.upd_ne e] at hb
      obtain ⟨j, hj, hjb⟩ := R.ex b hb
      have : j ≠ i := fun q => e (by rw [← hjb, q])
      exact ⟨j, by rw [XH.get_set R.wf R.sm hlt, if_neg this]; exact hj, hjb⟩

/-- The heap of names stands for the heap of blocks. -/
theorem HRep.hr (R : HRep ρ h H) : HR ρ h.a H := by
  refine ⟨fun b cs hb => ?_, fun b sh es hb => ?_, fun b s p hb => ?_⟩
  all_goals
    have := R.cr b
    unfold XH.a at hb
    cases hg : h.get b <;> rw [hg] at hb this <;> simp at hb
  · subst hb; exact ⟨_, rfl, this⟩
  · obtain ⟨rfl, rfl⟩ := hb; exact ⟨by unfold Rn.s; rw [this.1]; rfl, this.2⟩
  · obtain ⟨rfl, rfl⟩ := hb; exact ⟨by unfold Rn.s; rw [this.1]; rfl, this.2⟩
end
end Go.AH
