/-
  Pair: the cells of a finder.
-/
import Derived.Test.YtkdhgablioljnaaPaG
import Derived.Test.YtkdhgablioljnaaAhDk
set_option linter.unusedSimpArgs false
set_option linter.unusedVariables false
set_option linter.unusedSectionVars false
namespace Go.Proofs
open Go Go.AH
set_option maxRecDepth 10000
set_option maxHeartbeats 4000000

def upf {α : Type} (f : Nat → α) (k : Nat) (x : α) : Nat → α := fun i => if i = k then x else f i
@[simp] theorem upf_same {α : Type} (f : Nat → α) (k : Nat) (x : α) : upf f k x k = x := by simp [upf]
theorem upf_ne {α : Type} (f : Nat → α) {k i : Nat} (x : α) (h : i ≠ k) : upf f k x i = f i := by simp [upf, h]
def iarr (n : Nat) (f : Nat → Int) : List AV := (List.range n).map fun i => AV.int .i64 (f i)
def barr (n : Nat) (f : Nat → Bool) : List AV := (List.range n).map fun i => AV.bool (f i)
def rarr (n : Nat) (r : Nat → AV) : List AV := (List.range n).map r
theorem drop_of_get {l : List AV} {i : Nat} {x : AV} (e : l[i]? = some x) : l.drop i = x :: l.drop (i + 1) := by
  obtain ⟨h, rfl⟩ := List.getElem?_eq_some_iff.1 e
  exact List.drop_eq_getElem_cons h

@[simp] theorem iarr_length {n : Nat} {f : Nat → Int} : (iarr n f).length = n := by simp [iarr]
theorem iarr_get {n k : Nat} {f : Nat → Int} (hk : k < n) : (iarr n f)[k]? = some (.int .i64 (f k)) := by simp [iarr, hk]
theorem iarr_dr {n k : Nat} {f : Nat → Int} (hk : k < n) : (iarr n f).drop k = .int .i64 (f k) :: (iarr n f).drop (k + 1) := drop_of_get (iarr_get hk)
theorem iarr_set {n k : Nat} {f : Nat → Int} {x : Int} : (iarr n f).set k (.int .i64 x) = iarr n (upf f k x) := by
  refine List.ext_getElem (by simp) fun i h1 h2 => ?_
  simp only [iarr, List.getElem_set, List.getElem_map, List.getElem_range, upf]
  by_cases e : k = i
  · rw [if_pos e, if_pos e.symm]
  · rw [if_neg e, if_neg (fun q => e q.symm)]
theorem iarr_congr {n : Nat} {f g : Nat → Int} (e : ∀ i, i < n → f i = g i) : iarr n f = iarr n g := by
  refine List.ext_getElem (by simp) fun i h1 h2 => ?_
  simp at h1
  simp [iarr, e i h1]
@[simp] theorem barr_length {n : Nat} {f : Nat → Bool} : (barr n f).length = n := by simp [barr]
theorem barr_get {n k : Nat} {f : Nat → Bool} (hk : k < n) : (barr n f)[k]? = some (.bool (f k)) := by simp [barr, hk]
theorem barr_dr {n k : Nat} {f : Nat → Bool} (hk : k < n) : (barr n f).drop k = .bool (f k) :: (barr n f).drop (k + 1) := drop_of_get (barr_get hk)
theorem barr_set {n k : Nat} {f : Nat → Bool} {x : Bool} : (barr n f).set k (.bool x) = barr n (upf f k x) := by
  refine List.ext_getElem (by simp) fun i h1 h2 => ?_
  simp only [barr, List.getElem_set, List.getElem_map, List.getElem_range, upf]
  by_cases e : k = i
  · rw [if_pos e, if_pos e.symm]
  · rw [if_neg e, if_neg (fun q => e q.symm)]
theorem barr_congr {n : Nat} {f g : Nat → Bool} (e : ∀ i, i < n → f i = g i) : barr n f = barr n g := by
  refine List.ext_getElem (by simp) fun i h1 h2 => ?_
  simp at h1
  simp [barr, e i h1]
@[simp] theorem rarr_length {n : Nat} {f : Nat → AV} : (rarr n f).length = n := by simp [rarr]
theorem rarr_get {n k : Nat} {f : Nat → AV} (hk : k < n) : (rarr n f)[k]? = some (f k) := by simp [rarr, hk]
theorem rarr_dr {n k : Nat} {f : Nat → AV} (hk : k < n) : (rarr n f).drop k = f k :: (rarr n f).drop (k + 1) := drop_of_get (rarr_get hk)
theorem rarr_set {n k : Nat} {f : Nat → AV} {x : AV} : (rarr n f).set k (x) = rarr n (upf f k x) := by
  refine List.ext_getElem (by simp) fun i h1 h2 => ?_
  simp only [rarr, List.getElem_set, List.getElem_map, List.getElem_range, upf]
  by_cases e : k = i
  · rw [if_pos e, if_pos e.symm]
  · rw [if_neg e, if_neg (fun q => e q.symm)]
theorem rarr_congr {n : Nat} {f g : Nat → AV} (e : ∀ i, i < n → f i = g i) : rarr n f = rarr n g := by
  refine List.ext_getElem (by simp) fun i h1 h2 => ?_
  simp at h1
  simp [rarr, e i h1]
theorem iarr_frozen {n : Nat} {f : Nat → Int} : ∀ x ∈ iarr n f, x.frozen = true := by
  intro x hx; obtain ⟨a, _, rfl⟩ := List.mem_map.1 hx; rfl
theorem barr_frozen {n : Nat} {f : Nat → Bool} : ∀ x ∈ barr n f, x.frozen = true := by
  intro x hx; obtain ⟨a, _, rfl⟩ := List.mem_map.1 hx; rfl
theorem skip_get {A R : List AV} {a j : Nat} (h : A.length = a) : (A ++ R)[a + j]? = R[j]? := by rw [List.getElem?_append_right (by omega), h, Nat.add_sub_cancel_left]
theorem skip_set {A R : List AV} {a j : Nat} {x : AV} (h : A.length = a) : (A ++ R).set (a + j) x = A ++ R.set j x := by rw [List.set_append_right _ _ (by omega), h, Nat.add_sub_cancel_left]
/-- A finder's cells: how many points, rows, mates, parents, bases, outer points, queue. -/
def fC (n : Int) (rows : Nat → AV) (mate par base : Nat → Int) (out : Nat → Bool) (q : AV) : List AV := [.int .i64 n] ++ (rarr 40 rows ++ (iarr 40 mate ++ (iarr 40 par ++ (iarr 40 base ++ (barr 40 out ++ [q])))))
section
variable {n : Int} {rows : Nat → AV} {mate par base : Nat → Int} {out : Nat → Bool} {q : AV} {k : Nat}
@[simp] theorem fC_length : (fC n rows mate par base out q).length = 202 := by simp [fC]
theorem gt_n : (fC n rows mate par base out q)[0]? = some (.int .i64 n) := rfl
theorem dr_n : fC n rows mate par base out q = .int .i64 n :: (fC n rows mate par base out q).drop 1 := rfl
theorem gt_row (hk : k < 40) : (fC n rows mate par base out q)[1 + k]? = some (rows k) := by
  rw [show 1 + k = 1 + k from by omega]
  unfold fC
  rw [skip_get (a := 1) (by simp), List.getElem?_append_left (by simpa using hk), rarr_get hk]
theorem dr_row (hk : k < 40) : (fC n rows mate par base out q).drop (1 + k) = rows k :: (fC n rows mate par base out q).drop (1 + k + 1) := drop_of_get (gt_row hk)
theorem sp_row {x : AV} (hk : k < 40) : splice (fC n rows mate par base out q) (1 + k) [x] = fC n (upf rows k x) mate par base out q := by
  rw [splice_one (by simp; omega), show 1 + k = 1 + k from by omega]
  unfold fC
  rw [skip_set (a := 1) (by simp), List.set_append_left _ _ (by simpa using hk), rarr_set]
theorem gt_mate (hk : k < 40) : (fC n rows mate par base out q)[41 + k]? = some (.int .i64 (mate k)) := by
  rw [show 41 + k = 1 + (40 + k) from by omega]
  unfold fC
  rw [skip_get (a := 1) (by simp), skip_get (a := 40) (by simp), List.getElem?_append_left (by simpa using hk), iarr_get hk]
theorem dr_mate (hk : k < 40) : (fC n rows mate par base out q).drop (41 + k) = .int .i64 (mate k) :: (fC n rows mate par base out q).drop (41 + k + 1) := drop_of_get (gt_mate hk)
theorem sp_mate {x : Int} (hk : k < 40) : splice (fC n rows mate par base out q) (41 + k) [.int .i64 x] = fC n rows (upf mate k x) par base out q := by
  rw [splice_one (by simp; omega), show 41 + k = 1 + (40 + k) from by omega]
  unfold fC
  rw [skip_set (a := 1) (by simp), skip_set (a := 40) (by simp), List.set_append_left _ _ (by simpa using hk), iarr_set]
theorem gt_par (hk : k < 40) : (fC n rows mate par base out q)[81 + k]? = some (.int .i64 (par k)) := by
  rw [show 81 + k = 1 + (40 + (40 + k)) from by omega]
  unfold fC
  rw [skip_get (a := 1) (by simp), skip_get (a := 40) (by simp), skip_get (a := 40) (by simp), List.getElem?_append_left (by simpa using hk), iarr_get hk]
theorem dr_par (hk : k < 40) : (fC n rows mate par base out q).drop (81 + k) = .int .i64 (par k) :: (fC n rows mate par base out q).drop (81 + k + 1) := drop_of_get (gt_par hk)
theorem sp_par {x : Int} (hk : k < 40) : splice (fC n rows mate par base out q) (81 + k) [.int .i64 x] = fC n rows mate (upf par k x) base out q := by
  rw [splice_one (by simp; omega), show 81 + k = 1 + (40 + (40 + k)) from by omega]
  unfold fC
  rw [skip_set (a := 1) (by simp), skip_set (a := 40) (by simp), skip_set (a := 40) (by simp), List.set_append_left _ _ (by simpa using hk), iarr_set]
theorem gt_base (hk : k < 40) : (fC n rows mate par base out q)[121 + k]? = some (.int .i64 (base k)) := by
  rw [show 121 + k = 1 + (40 + (40 + (40 + k))) from by omega]
  unfold fC
  rw [skip_get (a := 1) (by simp), skip_get (a := 40) (by simp), skip_get (a := 40) (by simp), skip_get (a := 40) (by simp), List.getElem?_append_left (by simpa using hk), iarr_get hk]
theorem dr_base (hk : k < 40) : (fC n rows mate par base out q).drop (121 + k) = .int .i64 (base k) :: (fC n rows mate par base out q).drop (121 + k + 1) := drop_of_get (gt_base hk)
theorem sp_base {x : Int} (hk : k < 40) : splice (fC n rows mate par base out q) (121 + k) [.int .i64 x] = fC n rows mate par (upf base k x) out q := by
  rw [splice_one (by simp; omega), show 121 + k = 1 + (40 + (40 + (40 + k))) from by omega]
  unfold fC
  rw [skip_set (a := 1) (by simp), skip_set (a := 40) (by simp), skip_set (a := 40) (by simp), skip_set (a := 40) (by simp), List.set_append_left _ _ (by simpa using hk), iarr_set]
theorem gt_out (hk : k < 40) : (fC n rows mate par base out q)[161 + k]? = some (.bool (out k)) := by
  rw [show 161 + k = 1 + (40 + (40 + (40 + (40 + k)))) from by omega]
  unfold fC
  rw [skip_get (a := 1) (by simp), skip_get (a := 40) (by simp), skip_get (a := 40) (by simp), skip_get (a := 40) (by simp), skip_get (a := 40) (by simp), List.getElem?_append_left (by simpa using hk), barr_get hk]
theorem dr_out (hk : k < 40) : (fC n rows mate par base out q).drop (161 + k) = .bool (out k) :: (fC n rows mate par base out q).drop (161 + k + 1) := drop_of_get (gt_out hk)
theorem sp_out {x : Bool} (hk : k < 40) : splice (fC n rows mate par base out q) (161 + k) [.bool x] = fC n rows mate par base (upf out k x) q := by
  rw [splice_one (by simp; omega), show 161 + k = 1 + (40 + (40 + (40 + (40 + k)))) from by omega]
  unfold fC
  rw [skip_set (a := 1) (by simp), skip_set (a := 40) (by simp), skip_set (a := 40) (by simp), skip_set (a := 40) (by simp), skip_set (a := 40) (by simp), List.set_append_left _ _ (by simpa using hk), barr_set]
theorem gt_q : (fC n rows mate par base out q)[201]? = some q := by
  unfold fC
  rw [show 201 = 1 + (40 + (40 + (40 + (40 + (40 + 0))))) from rfl, skip_get (a := 1) (by simp), skip_get (a := 40) (by simp), skip_get (a := 40) (by simp), skip_get (a := 40) (by simp), skip_get (a := 40) (by simp), skip_get (a := 40) (by simp)]
  rfl
theorem dr_q : (fC n rows mate par base out q).drop 201 = [q] := by
  rw [drop_of_get gt_q, List.drop_of_length_le (by simp)]
theorem sp_q {x : AV} : splice (fC n rows mate par base out q) 201 [x] = fC n rows mate par base out x := by
  rw [splice_one (by simp)]
  unfold fC
  rw [show 201 = 1 + (40 + (40 + (40 + (40 + (40 + 0))))) from rfl, skip_set (a := 1) (by simp), skip_set (a := 40) (by simp), skip_set (a := 40) (by simp), skip_set (a := 40) (by simp), skip_set (a := 40) (by simp), skip_set (a := 40) (by simp)]
  rfl
theorem fC_rows : ((fC n rows mate par base out q).drop 1).take 40 = rarr 40 rows := by
  unfold fC
  rw [List.drop_append, List.drop_of_length_le (by simp), List.nil_append, show 1 - [AV.int .i64 n].length = 0 from rfl, List.drop_zero, List.take_append_of_le_length (by simp), List.take_of_length_le (by simp)]
theorem fC_mate : (fC n rows mate par base out q).drop 41 = iarr 40 mate ++ (iarr 40 par ++ (iarr 40 base ++ (barr 40 out ++ [q]))) := by
  unfold fC
  rw [List.drop_append, List.drop_of_length_le (by simp), List.nil_append, show 41 - [AV.int .i64 n].length = 40 from rfl, List.drop_append, List.drop_of_length_le (by simp), List.nil_append, show 40 - (rarr 40 rows).length = 0 from by simp, List.drop_zero]
theorem fC_one (hr : ∀ p, (rows p).one = true) (hq : q.one = true) : ∀ x ∈ fC n rows mate par base out q, x.one = true := by
  intro x hx
  simp only [fC, List.mem_append, List.mem_singleton, iarr, rarr, barr, List.mem_map] at hx
  rcases hx with rfl | ⟨a, _, rfl⟩ | ⟨a, _, rfl⟩ | ⟨a, _, rfl⟩ | ⟨a, _, rfl⟩ | ⟨a, _, rfl⟩ | rfl <;> first | rfl | exact hr _ | exact hq
theorem fC_map (f : AV → AV) (hf : ∀ n : Int, f (.int .i64 n) = .int .i64 n) (hb : ∀ b : Bool, f (.bool b) = .bool b) : (fC n rows mate par base out q).map f = fC n (fun p => f (rows p)) mate par base out (f q) := by
  simp [fC, iarr, rarr, barr, hf, hb, Function.comp_def]
end
theorem zeroF : zeroT Try.prog 112 = some (fC 0 (fun _ => .nilsl) (fun _ => 0) (fun _ => 0) (fun _ => 0) (fun _ => false) .nilsl) := by kernel_rfl
theorem zero107 : zeroT Try.prog 107 = some (rarr 40 fun _ => .nilsl) := by kernel_rfl
theorem zero109 : zeroT Try.prog 109 = some (iarr 40 fun _ => 0) := by kernel_rfl
theorem zero110 : zeroT Try.prog 110 = some (barr 40 fun _ => false) := by kernel_rfl
@[simp] theorem fC_set0 {n m : Int} {rows : Nat → AV} {mate par base : Nat → Int} {out : Nat → Bool} {q : AV} : (fC n rows mate par base out q).set 0 (.int .i64 m) = fC m rows mate par base out q := rfl
/-- Rows of neighbours. -/
def nbr (w : Int) (l : List Ed) (p : Nat) : List Int := l.flatMap fun e => if e.1 = w ∨ e.2 = w then [] else (if e.1 = (p : Int) then [e.2] else []) ++ (if e.2 = (p : Int) then [e.1] else [])
theorem nbr_snoc {w : Int} {l : List Ed} {e : Ed} {p : Nat} : nbr w (l ++ [e]) p = nbr w l p ++ (if e.1 = w ∨ e.2 = w then [] else (if e.1 = (p : Int) then [e.2] else []) ++ (if e.2 = (p : Int) then [e.1] else [])) := by simp [nbr]
theorem nbr_len {w : Int} {l : List Ed} {p : Nat} : (nbr w l p).length ≤ 2 * l.length := by
  induction l with
  | nil => simp [nbr]
  | cons e l ih =>
    have : nbr w (e :: l) p = (if e.1 = w ∨ e.2 = w then [] else (if e.1 = (p : Int) then [e.2] else []) ++ (if e.2 = (p : Int) then [e.1] else [])) ++ nbr w l p := rfl
    rw [this, List.length_append, List.length_cons]
    have : (if e.1 = w ∨ e.2 = w then [] else (if e.1 = (p : Int) then [e.2] else []) ++ (if e.2 = (p : Int) then [e.1] else [])).length ≤ 2 := by
      split
      · simp
      · split <;> split <;> simp
    omega
end Go.Proofs
