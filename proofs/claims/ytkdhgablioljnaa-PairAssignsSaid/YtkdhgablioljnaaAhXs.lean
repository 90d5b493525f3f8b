/-
  The evaluator's trees and heaps; what stands for what.
-/
import Derived.Test.YtkdhgablioljnaaAhXr
set_option linter.unusedSimpArgs false
set_option linter.unusedVariables false
set_option linter.unusedSectionVars false
namespace Go.AH
open Go

/-! ### Trees -/
section
variable {α : Type}
def Tr.wf : Nat → Tr α → Prop
  | 0, .nil => True
  | 0, .leaf _ => True
  | 0, .node _ _ => False
  | _ + 1, .nil => True
  | _ + 1, .leaf _ => False
  | d + 1, .node l r => Tr.wf d l ∧ Tr.wf d r

theorem Tr.get_nil (k : Nat) : (Tr.nil : Tr α).get k = none := rfl
theorem Tr.get_leaf (a : α) (k : Nat) : (Tr.leaf a).get k = if k = 0 then some a else none := by cases k <;> rfl
theorem Tr.get_node (l r : Tr α) (k : Nat) : (Tr.node l r).get k = if k % 2 = 0 then l.get (k / 2) else r.get (k / 2) := by
  show Nat.rec (motive := fun _ => Option α) (l.get (Nat.div k 2)) (fun _ _ => r.get (Nat.div k 2)) (Nat.mod k 2) = _
  have e1 : Nat.div k 2 = k / 2 := rfl
  have e2 : Nat.mod k 2 = k % 2 := rfl
  rw [e1, e2]
  cases k % 2 <;> first | rfl | simp
theorem Tr.put_zero (t : Tr α) (k : Nat) (a : α) : t.put 0 k a = .leaf a := rfl
theorem Tr.put_nil (d k : Nat) (a : α) : (Tr.nil : Tr α).put (d + 1) k a = if k % 2 = 0 then .node (Tr.nil.put d (k / 2) a) .nil else .node .nil (Tr.nil.put d (k / 2) a) := by
  show Nat.rec (motive := fun _ => Tr α) (.node (Tr.nil.put d (Nat.div k 2) a) .nil) (fun _ _ => .node .nil (Tr.nil.put d (Nat.div k 2) a)) (Nat.mod k 2) = _
  have e1 : Nat.div k 2 = k / 2 := rfl
  have e2 : Nat.mod k 2 = k % 2 := rfl
  rw [e1, e2]
  cases k % 2 <;> first | rfl | simp
theorem Tr.put_node (l r : Tr α) (d k : Nat) (a : α) : (Tr.node l r).put (d + 1) k a = if k % 2 = 0 then .node (l.put d (k / 2) a) r else .node l (r.put d (k / 2) a) := by
  show Nat.rec (motive := fun _ => Tr α) (.node (l.put d (Nat.div k 2) a) r) (fun _ _ => .node l (r.put d (Nat.div k 2) a)) (Nat.mod k 2) = _
  have e1 : Nat.div k 2 = k / 2 := rfl
  have e2 : Nat.mod k 2 = k % 2 := rfl
  rw [e1, e2]
  cases k % 2 <;> first | rfl | simp

theorem Tr.nil_wf : ∀ d, (Tr.nil : Tr α).wf d
  | 0 => trivial
  | _ + 1 => trivial
theorem Tr.put_wf : ∀ (d : Nat) (t : Tr α) (k : Nat) (a : α), t.wf d → (t.put d k a).wf d
  | 0, t, k, a, _ => trivial
  | d + 1, .nil, k, a, _ => by
    rw [Tr.put_nil]
    split
    · exact ⟨Tr.put_wf d .nil _ a (Tr.nil_wf d), Tr.nil_wf d⟩
    · exact ⟨Tr.nil_wf d, Tr.put_wf d .nil _ a (Tr.nil_wf d)⟩
  | d + 1, .leaf b, k, a, h => h.elim
  | d + 1, .node l r, k, a, h => by
    rw [Tr.put_node]
    split
    · exact ⟨Tr.put_wf d l _ a h.1, h.2⟩
    · exact ⟨h.1, Tr.put_wf d r _ a h.2⟩

theorem Tr.get_put : ∀ (d : Nat) (t : Tr α) (k k' : Nat) (a : α), t.wf d → k < 2 ^ d → (t.put d k a).get k' = if k' = k then some a else t.get k'
  | 0, t, k, k', a, h, hk => by
    have : k = 0 := by simpa using hk
    subst this
    rw [Tr.put_zero, Tr.get_leaf]
    by_cases e : k' = 0
    · simp [e]
    · rw [if_neg e, if_neg e]
      cases t with
      | nil => rfl
      | leaf b => rw [Tr.get_leaf, if_neg e]
      | node l r => exact h.elim
  | d + 1, .nil, k, k', a, h, hk => by
    have hk2 : k / 2 < 2 ^ d := by rw [Nat.pow_succ] at hk; omega
    rw [Tr.put_nil, Tr.get_nil]
    split <;> rw [Tr.get_node] <;> split
    · rw [Tr.get_put d .nil _ _ a (Tr.nil_wf d) hk2, Tr.get_nil]
      by_cases e : k' = k
      · simp [e]
      · rw [if_neg e, if_neg (by omega)]
    · rw [Tr.get_nil, if_neg (by rintro rfl; omega)]
    · rw [Tr.get_nil, if_neg (by rintro rfl; omega)]
    · rw [Tr.get_put d .nil _ _ a (Tr.nil_wf d) hk2, Tr.get_nil]
      by_cases e : k' = k
      · simp [e]
      · rw [if_neg e, if_neg (by omega)]
  | d + 1, .leaf b, k, k', a, h, hk => h.elim
  | d + 1, .node l r, k, k', a, h, hk => by
    have hk2 : k / 2 < 2 ^ d := by rw [Nat.pow_succ] at hk; omega
    rw [Tr.put_node, Tr.get_node l r]
    split <;> rw [Tr.get_node] <;> split
    · rw [Tr.get_put d l _ _ a h.1 hk2]
      by_cases e : k' = k
      · simp [e]
      · rw [if_neg e, if_neg (by omega)]
    · rw [if_neg (by rintro rfl; omega)]
    · rw [if_neg (by rintro rfl; omega)]
    · rw [Tr.get_put d r _ _ a h.2 hk2]
      by_cases e : k' = k
      · simp [e]
      · rw [if_neg e, if_neg (by omega)]
end

theorem Tr.getU_eq : ∀ (t : Tr AV) (k : Nat), t.getU k = (t.get k).getD .undef
  | .nil, k => rfl
  | .leaf a, k => by cases k <;> rfl
  | .node l r, k => by
    rw [Tr.get_node]
    show Nat.rec (motive := fun _ => AV) (l.getU (Nat.div k 2)) (fun _ _ => r.getU (Nat.div k 2)) (Nat.mod k 2) = _
    have e1 : Nat.div k 2 = k / 2 := rfl
    have e2 : Nat.mod k 2 = k % 2 := rfl
    rw [e1, e2, Tr.getU_eq l, Tr.getU_eq r]
    cases k % 2 <;> first | rfl | simp

theorem Tr.getU_put {d : Nat} {t : Tr AV} {k k' : Nat} {a : AV} (h : t.wf d) (hk : k < 2 ^ d) : (t.put d k a).getU k' = if k' = k then a else t.getU k' := by
  rw [Tr.getU_eq, Tr.get_put d t k k' a h hk, Tr.getU_eq]
  split <;> simp

theorem Tr.at_put {d : Nat} {t : Tr AV} {k : Nat} {a : AV} (h : t.wf d) (hk : k < 2 ^ d) : (t.put d k a).at = t.at.put k a := by
  funext i
  show (t.put d k a).getU i = _
  rw [Tr.getU_put h hk]; rfl

theorem Tr.take_succ (t : Tr AV) (n off : Nat) : t.take (n + 1) off = t.getU off :: t.take n (off + 1) := rfl
theorem Tr.take_eq (t : Tr AV) : ∀ (n off : Nat), t.take n off = (List.range n).map fun i => t.getU (off + i)
  | 0, off => rfl
  | n + 1, off => by
    rw [Tr.take_succ, Tr.take_eq t n, List.range_succ_eq_map]
    simp [Function.comp_def, Nat.add_assoc, Nat.add_comm 1]
theorem Tr.take_length (t : Tr AV) (n off : Nat) : (t.take n off).length = n := by simp [Tr.take_eq]
theorem Tr.take_drop (t : Tr AV) (n off k : Nat) : (t.take n off).drop k = t.take (n - k) (off + k) := by
  apply List.ext_getElem
  · simp [Tr.take_length]
  · intro i h1 h2
    simp [Tr.take_eq, Nat.add_assoc]
theorem Tr.take_take (t : Tr AV) (n off k : Nat) (h : k ≤ n) : (t.take n off).take k = t.take k off := by
  apply List.ext_getElem
  · simp [Tr.take_length]; omega
  · intro i h1 h2
    simp [Tr.take_eq]

theorem Tr.putL_cons (d : Nat) (a : AV) (l : List AV) (t : Tr AV) (off : Nat) : Tr.putL d (a :: l) t off = Tr.putL d l (t.put d off a) (off + 1) := rfl
theorem Tr.putL_spec (d : Nat) : ∀ (l : List AV) (t : Tr AV) (off : Nat), t.wf d → off + l.length ≤ 2 ^ d → (Tr.putL d l t off).wf d ∧ ∀ i, (Tr.putL d l t off).getU i = if off ≤ i ∧ i < off + l.length then l.getD (i - off) .undef else t.getU i
  | [], t, off, h, _ => ⟨h, fun i => by
      show t.getU i = _
      rw [if_neg (by simp)]⟩
  | a :: l, t, off, h, hl => by
    simp only [List.length_cons] at hl
    rw [Tr.putL_cons]
    obtain ⟨h1, h2⟩ := Tr.putL_spec d l (t.put d off a) (off + 1) (Tr.put_wf _ _ _ _ h) (by omega)
    refine ⟨h1, fun i => ?_⟩
    rw [h2, Tr.getU_put h (by omega)]
    simp only [List.length_cons]
    by_cases e : i = off
    · subst e; simp only [Nat.sub_self, List.getD_cons_zero, if_true]; rw [if_neg (by omega), if_pos (by omega)]
    · by_cases hc : off + 1 ≤ i ∧ i < off + 1 + l.length
      · rw [if_pos hc, if_pos (by omega), show i - off = (i - (off + 1)) + 1 from by omega, List.getD_cons_succ]
      · rw [if_neg hc, if_neg e, if_neg (by omega)]

theorem Tr.putL_take {d : Nat} {l : List AV} {t : Tr AV} {off n : Nat} (h : t.wf d) (hl : off + l.length ≤ 2 ^ d) (hn : off + l.length ≤ n) : (Tr.putL d l t off).take n 0 = splice (t.take n 0) off l := by
  obtain ⟨h1, h2⟩ := Tr.putL_spec d l t off h hl
  apply List.ext_getElem
  · simp [Tr.take_length, splice]; omega
  · intro i hi1 hi2
    rw [Tr.take_length] at hi1
    simp only [Tr.take_eq, List.getElem_map, List.getElem_range, Nat.zero_add, h2, splice]
    by_cases c1 : i < off
    · rw [if_neg (by omega), List.getElem_append_left (by simp; omega), List.getElem_append_left (by simp; omega)]
      simp
    · by_cases c2 : i < off + l.length
      · rw [if_pos (by omega), List.getElem_append_left (by simp; omega), List.getElem_append_right (by simp; omega)]
        simp only [List.length_take, List.length_map, List.length_range]
        rw [List.getD_eq_getElem?_getD, List.getElem?_eq_getElem (by omega), Option.getD_some]
        congr 1; omega
      · rw [if_neg (by omega), List.getElem_append_right (by simp; omega)]
        simp only [List.getElem_drop, List.getElem_map, List.getElem_range, List.length_append, List.length_take, List.length_map, List.length_range]
        congr 1; omega

theorem Tr.put_take {d : Nat} {t : Tr AV} {off n : Nat} {a : AV} (h : t.wf d) (hl : off < 2 ^ d) (hn : off < n) : (t.put d off a).take n 0 = splice (t.take n 0) off [a] :=
  Tr.putL_take (l := [a]) h (by simp; omega) (by simp; omega)

theorem ofL_spec {l : List AV} (hl : l.length ≤ 2048) : (ofL l).wf 11 ∧ (ofL l).take l.length 0 = l := by
  obtain ⟨h1, h2⟩ := Tr.putL_spec 11 l .nil 0 (Tr.nil_wf 11) (by omega)
  refine ⟨h1, ?_⟩
  apply List.ext_getElem
  · simp [Tr.take_length]
  · intro i hi1 hi2
    have := h2 i
    simp only [Tr.take_eq, List.getElem_map, List.getElem_range, Nat.zero_add]
    show (Tr.putL 11 l .nil 0).getU i = _
    rw [this, if_pos (by omega), List.getD_eq_getElem?_getD, Nat.sub_zero, List.getElem?_eq_getElem hi2, Option.getD_some]
end Go.AH
