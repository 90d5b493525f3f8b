/-
  Regions that draw: what the evaluator tells of an operation's blocks; masks.
-/
import Derived.Test.YtkdhgablioljnaaAhXf
import Derived.Test.YtkdhgablioljnaaAhAny
set_option linter.unusedSimpArgs false
set_option linter.unusedVariables false
set_option linter.unusedSectionVars false
namespace Go.AH
open Go

/-! ### Masks -/
theorem tb_eq (m i : Nat) : tb m i = m.testBit i := by
  unfold tb Nat.testBit
  rw [show Nat.land (Nat.shiftRight m i) 1 = (m >>> i) &&& 1 from rfl, Nat.and_comm 1]
  have := Nat.and_one_is_mod (m >>> i)
  rw [this]
  rcases Nat.mod_two_eq_zero_or_one (m >>> i) with h | h <;> rw [h] <;> rfl
theorem tb_lor (a b i : Nat) : tb (Nat.lor a b) i = (tb a i || tb b i) := by
  rw [tb_eq, tb_eq, tb_eq]; exact Nat.testBit_or a b i
theorem tb_one (j i : Nat) : tb (Nat.shiftLeft 1 j) i = decide (i = j) := by
  rw [tb_eq, show Nat.shiftLeft 1 j = 1 <<< j from rfl, Nat.one_shiftLeft, Nat.testBit_two_pow]
  congr 1
  exact propext eq_comm

section
variable {ops : Array Oper}

theorem anc_mono : ∀ (k k' i j : Nat), k ≤ k' → anc ops k i j = true → anc ops k' i j = true
  | 0, _, _, _, _, e => by simp [anc] at e
  | k + 1, 0, _, _, hk, _ => by omega
  | k + 1, k' + 1, i, j, hk, e => by
    unfold anc at e ⊢
    split at e
    · next o ho =>
      simp only [Bool.or_eq_true] at e ⊢
      rcases e with e | e
      · exact .inl e
      · right
        rw [Array.any_eq_true'] at e ⊢
        obtain ⟨ed, hed, e⟩ := e
        refine ⟨ed, hed, ?_⟩
        simp only [Bool.and_eq_true] at e ⊢
        exact ⟨e.1, anc_mono k k' _ _ (by omega) e.2⟩
    · cases e

theorem edgesM_spec (done : List Nat) (j : Nat) : ∀ es : List Edge, tb (edgesM done es) j = true → ∃ e ∈ es, Region.binds .any e = true ∧ (e.on = j ∨ tb (done.getD e.on 0) j = true)
  | [], e => by simp [edgesM, tb] at e
  | x :: es, e => by
    unfold edgesM at e
    split at e
    · next hb =>
      rw [tb_lor, tb_lor, tb_one] at e
      simp only [Bool.or_eq_true, decide_eq_true_eq] at e
      rcases e with e | e | e
      · obtain ⟨y, h1, h2⟩ := edgesM_spec done j es e
        exact ⟨y, by simp [h1], h2⟩
      · exact ⟨x, by simp, hb, .inl e.symm⟩
      · exact ⟨x, by simp, hb, .inr e⟩
    · obtain ⟨y, h1, h2⟩ := edgesM_spec done j es e
      exact ⟨y, by simp [h1], h2⟩

def MasksOk (ops : Array Oper) (ms : List Nat) : Prop := ∀ i j, tb (ms.getD i 0) j = true → anc ops (i + 1) i j = true ∧ i < ops.size
theorem ancMs_spec : ∀ (os pre : List Oper) (done : List Nat), ops.toList = pre ++ os → done.length = pre.length → MasksOk ops done → MasksOk ops (ancMs done os)
  | [], pre, done, _, _, h => h
  | o :: os, pre, done, he, hl, h => by
    unfold ancMs
    refine ancMs_spec os (pre ++ [o]) _ (by simp [he]) (by simp [hl]) ?_
    intro i j e
    by_cases hi : i < done.length
    · rw [List.getD_eq_getElem?_getD, List.getElem?_append_left hi, ← List.getD_eq_getElem?_getD] at e
      exact h i j e
    · by_cases hi2 : i = done.length
      · subst hi2
        rw [List.getD_eq_getElem?_getD, List.getElem?_append_right (Nat.le_refl _)] at e
        simp only [Nat.sub_self, List.getElem?_cons_zero, Option.getD_some] at e
        obtain ⟨x, hx, hb, hj⟩ := edgesM_spec done j _ e
        have ho : ops[done.length]? = some o := by
          rw [← Array.getElem?_toList, he, hl, List.getElem?_append_right (Nat.le_refl _)]; simp
        refine ⟨?_, (Array.getElem?_eq_some_iff.1 ho).1⟩
        unfold anc
        rw [ho]
        simp only [Bool.or_eq_true]
        rcases hj with hj | hj
        · left
          rw [Array.any_eq_true']
          exact ⟨x, by simpa using hx, by simp [hb, hj]⟩
        · right
          rw [Array.any_eq_true']
          have hlt : x.on < done.length := by
            by_cases hlt : x.on < done.length
            · exact hlt
            · rw [List.getD_eq_getElem?_getD, List.getElem?_eq_none (by omega)] at hj
              simp [tb] at hj
          exact ⟨x, by simpa using hx, by simp only [hb, Bool.true_and]; exact anc_mono _ _ _ _ (by omega) (h x.on j hj).1⟩
      · rw [List.getD_eq_getElem?_getD, List.getElem?_eq_none (by simp; omega)] at e
        simp [tb] at e
theorem masks_ok (ops : Array Oper) : MasksOk ops (ancMs [] ops.toList) := ancMs_spec ops.toList [] [] rfl rfl (fun i j e => by simp [tb] at e)
theorem MasksOk.anc {ms : List Nat} (h : MasksOk ops ms) {i j : Nat} (e : tb (ms.getD i 0) j = true) : anc ops ops.size i j = true := by
  obtain ⟨h1, h2⟩ := h i j e
  exact anc_mono _ _ _ _ (by omega) h1

theorem pairsM_spec {P : Program} {ms fl : List Nat} (h : MasksOk ops ms) : ∀ l : List Nat, pairsM P ms ops fl l = true → pairsD ops fl l = true
  | [], _ => rfl
  | i :: l, e => by
    simp only [pairsM, Bool.and_eq_true] at e
    simp only [pairsD, Bool.and_eq_true]
    refine ⟨List.all_eq_true.2 fun j hj => ?_, pairsM_spec h l e.2⟩
    have := List.all_eq_true.1 e.1 j hj
    simp only [Bool.or_eq_true] at this ⊢
    rcases this with q | q
    · exact .inl (h.anc q)
    · exact .inr q
theorem ordM_spec {P : Program} {ms fl ord : List Nat} (h : MasksOk ops ms) (e : ordM P ms ops fl ord = true) : ordD ops fl ord = true := by
  simp only [ordM, Bool.and_eq_true] at e
  simp only [ordD, Bool.and_eq_true]
  exact ⟨⟨⟨e.1.1.1, pairsM_spec h _ e.1.1.2⟩, e.1.2⟩, e.2⟩
theorem nodupB_spec : ∀ l : List Nat, nodupB l = true → l.Nodup
  | [], _ => List.nodup_nil
  | a :: l, e => by
    simp only [nodupB, Bool.and_eq_true, Bool.not_eq_true'] at e
    exact List.nodup_cons.2 ⟨by simpa using e.1, nodupB_spec l e.2⟩
end

/-! ### What is touched -/
section
variable {P : Program} {ρ : Rn} {t : Fr} {h : AHeap}

theorem blk_ren (v : AV) : blk (ren ρ v) = (blk v).map ρ.b := by cases v <;> simp [ren, blk]
theorem blkP_sub {v : AV} {b : Nat} (e : b ∈ blkP v) : b ∈ blk v := by cases v <;> simp [blkP] at e <;> simp [blk, e]
theorem blkS_sub {v : AV} {b : Nat} (e : b ∈ blkS v) : b ∈ blk v := by cases v <;> simp [blkS] at e <;> simp [blk, e]
theorem blkM_sub {v : AV} {b : Nat} (e : b ∈ blkM v) : b ∈ blk v := by cases v <;> simp [blkM] at e <;> simp [blk, e]

theorem acc_of {f : AF} {op : Op} {b : Nat} (e : b ∈ accA P f op) : ∃ x ∈ accOf P op, b ∈ blk (evalA f x) := by
  cases op <;> first | (simp [accA] at e; done) | skip
  case load ty a => exact ⟨a, by simp [accOf], blkP_sub e⟩
  case store ty a x => exact ⟨a, by simp [accOf], blkP_sub e⟩
  case lookup ty m k ok => exact ⟨m, by simp [accOf], blkM_sub e⟩
  case mapUpdate ty m k x => exact ⟨m, by simp [accOf], blkM_sub e⟩
  case insert ty m k x => exact ⟨m, by simp [accOf], blkM_sub e⟩
  case next it str =>
    cases str
    · simp [accA] at e
    · exact ⟨it, by simp [accOf], blkP_sub e⟩
  case convert s d x => exact ⟨x, by simp [accOf], blkS_sub e⟩
  case slice ty x lo hi mx =>
    cases mx with
    | some m => simp [accA] at e
    | none =>
      simp only [accA] at e
      simp only [accOf]
      split at e
      · next hu => rw [hu]; exact ⟨x, by simp, blkP_sub e⟩
      · cases e
  case call c =>
    obtain ⟨callee, args, ats⟩ := c
    cases callee with
    | value f => simp [accA] at e
    | invoke r m => simp [accA] at e
    | builtin bi =>
      cases bi <;> first | (simp [accA] at e; done) | skip
      case len =>
        simp only [accA] at e
        simp only [accOf]
        split at e
        · next x ty ha hat =>
          rw [ha, hat]
          simp only
          split at e
          · next hu => rw [hu]; exact ⟨x, by simp, blkM_sub e⟩
          · cases e
        · cases e
      case append =>
        simp only [accA, List.mem_flatMap] at e
        obtain ⟨x, hx, hb⟩ := e
        exact ⟨x, hx, blkS_sub hb⟩
      case copy =>
        simp only [accA, List.mem_flatMap] at e
        obtain ⟨x, hx, hb⟩ := e
        exact ⟨x, hx, blkS_sub hb⟩

theorem names_of {l : List Operand} {x : Operand} (hx : x ∈ l) {b : Nat} (e : b ∈ blk (evalA (renF ρ t.at) x)) : ∃ a ∈ namesOf (l.map .of) t, ρ.b a = b := by
  rw [evalA_ren, blk_ren] at e
  obtain ⟨a, ha, rfl⟩ := List.mem_map.1 e
  refine ⟨a, ?_, rfl⟩
  unfold namesOf
  rw [List.mem_flatMap]
  exact ⟨.of x, List.mem_map_of_mem hx, by rw [ev_of]; exact ha⟩
theorem acc_names {op : Op} {b : Nat} (e : b ∈ accA P (renF ρ t.at) op) : ∃ a ∈ namesOf ((accOf P op).map .of) t, ρ.b a = b := by
  obtain ⟨x, hx, hb⟩ := acc_of e
  exact names_of hx hb

theorem wrB_ret {v : AV} : wrB (.ret v) = [] := rfl
theorem wrB_new {c : Chunk} {v : Nat → AV} : wrB (.new c v) = [] := rfl
theorem wrB_put {b : Nat} {c : Chunk} {v : AV} : wrB (.put b c v) = [b] := rfl

def WrIn (f : AF) (l : List Operand) (p : Plan) : Prop := ∀ b ∈ wrB p, ∃ x ∈ l, b ∈ blk (evalA f x)
theorem wrIn_ret {f : AF} {l : List Operand} {v : AV} : WrIn f l (.ret v) := fun b hb => by cases hb
theorem wrIn_new {f : AF} {l : List Operand} {c : Chunk} {v : Nat → AV} : WrIn f l (.new c v) := fun b hb => by cases hb
theorem wrIn_put {f : AF} {l : List Operand} {b : Nat} {c : Chunk} {v : AV} {x : Operand} (hx : x ∈ l) (hb : b ∈ blk (evalA f x)) : WrIn f l (.put b c v) := fun b' hb' => by
  rw [wrB_put, List.mem_singleton] at hb'
  subst hb'
  exact ⟨x, hx, hb⟩

theorem planPut_wr {f : AF} {ty : TypeId} {m k x : Operand} {p : Plan} (e : planPut P f h ty m k x = some p) : WrIn f [m] p ∧ p.fr = none := by
  unfold planPut at e
  repeat' split at e
  all_goals first
    | (cases e; done)
    | skip
  next b hm _ _ _ _ _ => cases e; exact ⟨wrIn_put (x := m) (by simp) (by rw [hm]; simp [blk]), rfl⟩

theorem plan_wr {f : AF} {op : Op} {p : Plan} (e : planA P f h op = some p) : WrIn f (wrOf op) p ∧ (p.fr ≠ none → frOf op = true) := by
  have rt : ∀ {v : AV}, WrIn f (wrOf op) (.ret v) ∧ ((Plan.ret v).fr ≠ none → frOf op = true) := ⟨wrIn_ret, fun q => absurd rfl q⟩
  cases op
  case store ty a x =>
    simp only [planA] at e
    split at e
    · next b off ha =>
      repeat' split at e
      all_goals first
        | (cases e; done)
        | (cases e; exact ⟨wrIn_put (x := a) (by simp [wrOf]) (by rw [ha]; simp [blk]), fun q => absurd rfl q⟩)
    · cases e
  case mapUpdate ty m k x => exact ⟨(planPut_wr e).1, fun q => absurd (planPut_wr e).2 q⟩
  case insert ty m k x => exact ⟨(planPut_wr e).1, fun q => absurd (planPut_wr e).2 q⟩
  case next it str =>
    cases str
    · simp only [planA] at e
      cases hq : pureA P f h (.next it false) with
      | none => rw [hq] at e; cases e
      | some r => rw [hq] at e; cases e; exact rt
    · simp only [planA] at e
      split at e
      · next b ha =>
        repeat' split at e
        all_goals first
          | (cases e; done)
          | (cases e; exact ⟨wrIn_put (x := it) (by simp [wrOf]) (by rw [ha]; simp [blk]), fun q => absurd rfl q⟩)
          | (cases e; exact rt)
      · cases e
  case makeMap ty r => exact ⟨by
    cases r with
    | none =>
      simp only [planA] at e
      repeat' split at e
      all_goals first
        | (cases e; done)
        | (cases e; exact wrIn_new)
    | some r => simp [planA, pureA] at e, fun _ => rfl⟩
  case call c =>
    obtain ⟨callee, args, ats⟩ := c
    cases callee with
    | value g => simp [planA, pureA] at e
    | invoke r m => simp [planA, pureA] at e
    | builtin bi =>
      cases bi
      case append =>
        refine ⟨?_, fun _ => rfl⟩
        simp only [planA] at e
        simp only [wrOf]
        split at e
        · next s x ts tx ha hat =>
          rw [ha]
          split at e
          · split at e
            · split at e
              · split at e
                · repeat' split at e
                  all_goals first
                    | (cases e; done)
                    | (cases e; exact wrIn_ret)
                    | (cases e; exact wrIn_new)
                · next b n es' hs =>
                  repeat' split at e
                  all_goals first
                    | (cases e; done)
                    | (cases e; intro b' hb'; rw [show b' = b from by simpa [wrB] using hb']; exact ⟨s, by simp, by rw [hs]; simp [blk]⟩)
                · cases e
              · cases e
            · cases e
          · cases e
        · cases e
      case copy =>
        simp only [planA] at e
        simp only [wrOf]
        split at e
        · next s x ts tx ha hat =>
          rw [ha]
          split at e
          · split at e
            · next k xs b off n es' hx hs =>
              repeat' split at e
              all_goals first
                | (cases e; done)
                | (cases e; exact ⟨wrIn_put (x := s) (by simp) (by rw [hs]; simp [blk]), fun q => absurd rfl q⟩)
            · cases e
          · cases e
        · cases e
      all_goals
        simp only [planA] at e
        repeat' split at e
        all_goals first
          | (cases e; done)
          | (obtain ⟨r, _, rfl⟩ := Option.map_eq_some_iff.1 e; exact rt)
  all_goals
    simp only [planA] at e
    repeat' split at e
    all_goals first
      | (cases e; done)
      | (cases e; exact rt)
      | (cases e; exact ⟨wrIn_new, fun _ => rfl⟩)
      | (obtain ⟨r, _, rfl⟩ := Option.map_eq_some_iff.1 e; exact rt)

theorem wr_names {op : Op} {p : Plan} (e : planA P (renF ρ t.at) h op = some p) : ∀ b ∈ wrB p, ∃ a ∈ namesOf ((wrOf op).map .of) t, ρ.b a = b := by
  intro b hb
  obtain ⟨x, hx, hb⟩ := (plan_wr e).1 b hb
  exact names_of hx hb
end
end Go.AH
