/-
  Texts: FlW0 FlW1 FlW2.
-/
import Derived.Test.YtpnikgfpcgaboaaF3
import Derived.Test.YtpnikgfpcgaboaaF2
import Derived.Test.YtpnikgfpcgaboaaAhDk
set_option linter.unusedSimpArgs false
set_option linter.unusedVariables false
set_option linter.unusedSectionVars false
section
/-
  Flow: the cells of a work; sources as lists of arcs.
-/
namespace Go.Proofs
open Go Go.AH
set_option maxRecDepth 10000
set_option maxHeartbeats 4000000

def iarr (n : Nat) (f : Nat → Int) : List AV := (List.range n).map fun i => AV.int .i64 (f i)
@[simp] theorem iarr_length {n : Nat} {f : Nat → Int} : (iarr n f).length = n := by simp [iarr]
theorem iarr_at {n k : Nat} {f : Nat → Int} (hk : k < n) : (iarr n f).drop k = .int .i64 (f k) :: (iarr n f).drop (k + 1) := by
  rw [List.drop_eq_getElem_cons (by simpa using hk)]
  simp [iarr]
theorem iarr_get {n k : Nat} {f : Nat → Int} (hk : k < n) : (iarr n f)[k]? = some (.int .i64 (f k)) := by simp [iarr, hk]
theorem iarr_set {n k : Nat} {f : Nat → Int} {x : Int} : (iarr n f).set k (.int .i64 x) = iarr n (upf f k x) := by
  refine List.ext_getElem (by simp) fun i h1 h2 => ?_
  simp only [iarr, List.getElem_set, List.getElem_map, List.getElem_range, upf]
  by_cases e : k = i
  · rw [if_pos e, if_pos e.symm]
  · rw [if_neg e, if_neg (fun q => e q.symm)]
theorem iarr_frozen {n : Nat} {f : Nat → Int} : ∀ x ∈ iarr n f, x.frozen = true := by
  intro x hx; obtain ⟨a, _, rfl⟩ := List.mem_map.1 hx; rfl
theorem iarr_congr {n : Nat} {f g : Nat → Int} (e : ∀ i, i < n → f i = g i) : iarr n f = iarr n g := by
  refine List.ext_getElem (by simp) fun i h1 h2 => ?_
  simp at h1
  simp [iarr, e i h1]
theorem iarr_zero (n : Nat) : List.replicate n (AV.int .i64 0) = iarr n fun _ => 0 := by
  refine List.ext_getElem (by simp) fun i h1 h2 => ?_
  simp [iarr]
def rarr (n : Nat) (r : Nat → AV) : List AV := (List.range n).map r
@[simp] theorem rarr_length {n : Nat} {f : Nat → AV} : (rarr n f).length = n := by simp [rarr]
theorem rarr_set {n k : Nat} {f : Nat → AV} {x : AV} : (rarr n f).set k x = rarr n (upf f k x) := by
  refine List.ext_getElem (by simp) fun i h1 h2 => ?_
  simp only [rarr, List.getElem_set, List.getElem_map, List.getElem_range, upf]
  by_cases e : k = i
  · rw [if_pos e, if_pos e.symm]
  · rw [if_neg e, if_neg (fun q => e q.symm)]
/-- A work's cells: places, heads, what is left, rows. -/
def wC (P : Int) (to left : Nat → Int) (rows : Nat → AV) : List AV := .int .i64 P :: (iarr 400 to ++ (iarr 400 left ++ rarr 24 rows))
section
variable {P : Int} {to left : Nat → Int} {rows : Nat → AV} {k : Nat}
@[simp] theorem wC_length : (wC P to left rows).length = 825 := by simp [wC]
theorem wC_to (hk : k < 400) : (wC P to left rows)[k + 1]? = some (.int .i64 (to k)) := by
  simp only [wC, List.getElem?_cons_succ]
  rw [List.getElem?_append_left (by simpa using hk), iarr_get hk]
theorem wC_left (hk : k < 400) : (wC P to left rows)[k + 401]? = some (.int .i64 (left k)) := by
  simp only [wC, show k + 401 = k + 400 + 1 from rfl, List.getElem?_cons_succ]
  rw [List.getElem?_append_right (by simp), iarr_length, show k + 400 - 400 = k from by omega, List.getElem?_append_left (by simpa using hk), iarr_get hk]
theorem wC_row (hk : k < 24) : (wC P to left rows)[k + 801]? = some (rows k) := by
  simp only [wC, show k + 801 = k + 800 + 1 from rfl, List.getElem?_cons_succ]
  rw [List.getElem?_append_right (by simp), iarr_length, show k + 800 - 400 = k + 400 from by omega, List.getElem?_append_right (by simp), iarr_length, show k + 400 - 400 = k from by omega]
  simp [rarr, hk]
theorem drop_of_get {l : List AV} {i : Nat} {x : AV} (e : l[i]? = some x) : l.drop i = x :: l.drop (i + 1) := by
  obtain ⟨h, rfl⟩ := List.getElem?_eq_some_iff.1 e
  exact List.drop_eq_getElem_cons h
theorem wC_set_to {x : Int} (hk : k < 400) : (wC P to left rows).set (k + 1) (.int .i64 x) = wC P (upf to k x) left rows := by
  simp only [wC, List.set_cons_succ]
  rw [List.set_append_left _ _ (by simpa using hk), iarr_set]
theorem wC_set_left {x : Int} (hk : k < 400) : (wC P to left rows).set (k + 401) (.int .i64 x) = wC P to (upf left k x) rows := by
  simp only [wC, show k + 401 = k + 400 + 1 from rfl, List.set_cons_succ]
  rw [List.set_append_right _ _ (by simp), iarr_length, show k + 400 - 400 = k from by omega, List.set_append_left _ _ (by simpa using hk), iarr_set]
theorem wC_set_row {x : AV} : (wC P to left rows).set (k + 801) x = wC P to left (upf rows k x) := by
  simp only [wC, show k + 801 = k + 800 + 1 from rfl, List.set_cons_succ]
  rw [List.set_append_right _ _ (by simp), iarr_length, show k + 800 - 400 = k + 400 from by omega, List.set_append_right _ _ (by simp), iarr_length, show k + 400 - 400 = k from by omega, rarr_set]
theorem sp_to {x : Int} (hk : k < 400) : splice (wC P to left rows) (1 + k) [.int .i64 x] = wC P (upf to k x) left rows := by
  rw [splice_one (by simp; omega), Nat.add_comm, wC_set_to hk]
theorem sp_left {x : Int} (hk : k < 400) : splice (wC P to left rows) (401 + k) [.int .i64 x] = wC P to (upf left k x) rows := by
  rw [splice_one (by simp; omega), Nat.add_comm, wC_set_left hk]
theorem sp_row {x : AV} (hk : k < 24) : splice (wC P to left rows) (801 + k) [x] = wC P to left (upf rows k x) := by
  rw [splice_one (by simp; omega), Nat.add_comm, wC_set_row]
theorem gt_to (hk : k < 400) : (wC P to left rows)[1 + k]? = some (.int .i64 (to k)) := by rw [Nat.add_comm]; exact wC_to hk
theorem gt_left (hk : k < 400) : (wC P to left rows)[401 + k]? = some (.int .i64 (left k)) := by rw [Nat.add_comm]; exact wC_left hk
theorem gt_row (hk : k < 24) : (wC P to left rows)[801 + k]? = some (rows k) := by rw [Nat.add_comm]; exact wC_row hk
theorem dr_to (hk : k < 400) : (wC P to left rows).drop (1 + k) = .int .i64 (to k) :: (wC P to left rows).drop (1 + k + 1) := drop_of_get (by rw [Nat.add_comm]; exact wC_to hk)
theorem dr_left (hk : k < 400) : (wC P to left rows).drop (401 + k) = .int .i64 (left k) :: (wC P to left rows).drop (401 + k + 1) := drop_of_get (by rw [Nat.add_comm]; exact wC_left hk)
theorem dr_row (hk : k < 24) : (wC P to left rows).drop (801 + k) = rows k :: (wC P to left rows).drop (801 + k + 1) := drop_of_get (by rw [Nat.add_comm]; exact wC_row hk)
end

theorem zeroW : zeroT Try.prog 119 = some (wC 0 (fun _ => 0) (fun _ => 0) fun _ => .nilsl) := by kernel_rfl
theorem zero24 : zeroT Try.prog 148 = some (iarr 24 fun _ => 0) := by kernel_rfl
@[simp] theorem wC_set0 {P Q : Int} {to left : Nat → Int} {rows : Nat → AV} : (wC P to left rows).set 0 (.int .i64 Q) = wC Q to left rows := rfl
theorem wC_one {P : Int} {to left : Nat → Int} {rows : Nat → AV} (hr : ∀ p, (rows p).one = true) : ∀ x ∈ wC P to left rows, x.one = true := by
  intro x hx
  simp only [wC, List.mem_cons, List.mem_append, iarr, rarr, List.mem_map] at hx
  rcases hx with rfl | ⟨a, _, rfl⟩ | ⟨a, _, rfl⟩ | ⟨a, _, rfl⟩ <;> first | rfl | exact hr _
theorem wC_map {P : Int} {to left : Nat → Int} {rows : Nat → AV} (f : AV → AV) (hf : ∀ n : Int, f (.int .i64 n) = .int .i64 n) : (wC P to left rows).map f = wC P to left fun p => f (rows p) := by
  simp [wC, iarr, rarr, hf, Function.comp_def]
/-! ### A source, told as a list of arcs -/
def srOf (P : Nat) (l : List RArc) (bk : RArc → Int) : Sr where
  P := P
  m := l.length
  A := fun j => (l.getD j ⟨0, 0, 0⟩).a.toNat
  B := fun j => (l.getD j ⟨0, 0, 0⟩).b.toNat
  C := fun j => (l.getD j ⟨0, 0, 0⟩).c
  D := fun j => bk (l.getD j ⟨0, 0, 0⟩)
structure ArcsOk (P : Nat) (l : List RArc) (bk : RArc → Int) : Prop where
  P2 : 2 ≤ P
  P24 : P ≤ 24
  len : l.length ≤ 200
  ok : ∀ x ∈ l, arcOk P x = true
  bk : ∀ x ∈ l, 0 ≤ bk x ∧ bk x ≤ 1000000000
theorem arcOk_iff {P : Int} {x : RArc} : arcOk P x = true ↔ 0 ≤ x.a ∧ 0 ≤ x.b ∧ x.a < P ∧ x.b < P ∧ x.a ≠ x.b ∧ 0 ≤ x.c ∧ x.c ≤ 1000000000 := by
  unfold arcOk; simp [and_assoc]
theorem srOf_ok {P : Nat} {l : List RArc} {bk : RArc → Int} (O : ArcsOk P l bk) : (srOf P l bk).Ok := by
  have key : ∀ j, j < l.length → arcOk P (l.getD j ⟨0, 0, 0⟩) = true ∧ 0 ≤ bk (l.getD j ⟨0, 0, 0⟩) ∧ bk (l.getD j ⟨0, 0, 0⟩) ≤ 1000000000 := fun j hj => by
    have hm : l.getD j ⟨0, 0, 0⟩ ∈ l := by rw [List.getD_eq_getElem?_getD, List.getElem?_eq_getElem hj]; simp
    exact ⟨O.ok _ hm, O.bk _ hm⟩
  constructor
  · intro j hj
    have := arcOk_iff.1 (key j hj).1
    show ((l.getD j ⟨0, 0, 0⟩).a.toNat) < P
    omega
  · intro j hj
    have := arcOk_iff.1 (key j hj).1
    show ((l.getD j ⟨0, 0, 0⟩).b.toNat) < P
    omega
  · intro j hj
    have := arcOk_iff.1 (key j hj).1
    show (l.getD j ⟨0, 0, 0⟩).a.toNat ≠ (l.getD j ⟨0, 0, 0⟩).b.toNat
    omega
  · intro j hj
    have := arcOk_iff.1 (key j hj).1
    exact this.2.2.2.2.2
  · intro j hj
    exact (key j hj).2
/-- Heads and capacities of the first arcs. -/
def wTo (S : Sr) (j : Nat) (k : Nat) : Int := if k < 2 * j then (S.hd k : Int) else 0
def wLeft (S : Sr) (j : Nat) (k : Nat) : Int := if k < 2 * j then S.cap0 k else 0
theorem wTo_succ (S : Sr) (j : Nat) : upf (upf (wTo S j) (2 * j) (S.B j)) (2 * j + 1) (S.A j) = wTo S (j + 1) := by
  funext k
  unfold upf wTo Sr.hd
  by_cases e1 : k = 2 * j + 1
  · subst e1
    rw [if_pos rfl, if_pos (by omega), if_neg (by omega), show (2 * j + 1) / 2 = j from by omega]
  · rw [if_neg e1]
    by_cases e2 : k = 2 * j
    · subst e2
      rw [if_pos rfl, if_pos (show 2 * j < 2 * (j + 1) by omega), if_pos (by omega), show 2 * j / 2 = j from by omega]
    · rw [if_neg e2]
      by_cases e3 : k < 2 * j
      · rw [if_pos e3, if_pos (show k < 2 * (j + 1) by omega)]
      · rw [if_neg e3, if_neg (show ¬ k < 2 * (j + 1) by omega)]
theorem wLeft_succ (S : Sr) (j : Nat) : upf (upf (wLeft S j) (2 * j) (S.C j)) (2 * j + 1) (S.D j) = wLeft S (j + 1) := by
  funext k
  unfold upf wLeft Sr.cap0
  by_cases e1 : k = 2 * j + 1
  · subst e1
    rw [if_pos rfl, if_pos (by omega), if_neg (by omega), show (2 * j + 1) / 2 = j from by omega]
  · rw [if_neg e1]
    by_cases e2 : k = 2 * j
    · subst e2
      rw [if_pos rfl, if_pos (show 2 * j < 2 * (j + 1) by omega), if_pos (by omega), show 2 * j / 2 = j from by omega]
    · rw [if_neg e2]
      by_cases e3 : k < 2 * j
      · rw [if_pos e3, if_pos (show k < 2 * (j + 1) by omega)]
      · rw [if_neg e3, if_neg (show ¬ k < 2 * (j + 1) by omega)]
theorem rowOf_len {S : Sr} {n p : Nat} : (rowOf S n p).length ≤ 2 * n := by
  have := List.length_filter_le (fun k => S.tl k == p) (List.range (2 * n))
  simpa [rowOf] using this
/-- A row while it grows. -/
def grow (rb : Nat → Option Nat) (S : Sr) (j : Nat) (p : Nat) : AV := ownV (rb p) (rowOf S j p).length 1
theorem rowOf_a {S : Sr} {j : Nat} (hne : S.A j ≠ S.B j) : rowOf S (j + 1) (S.A j) = rowOf S j (S.A j) ++ [2 * j] := by
  rw [rowOf_succ, if_pos rfl, if_neg (fun e => hne e.symm)]; simp
theorem rowOf_b {S : Sr} {j : Nat} (hne : S.A j ≠ S.B j) : rowOf S (j + 1) (S.B j) = rowOf S j (S.B j) ++ [2 * j + 1] := by
  rw [rowOf_succ, if_pos rfl, if_neg hne]; simp
theorem rowOf_o {S : Sr} {j p : Nat} (h1 : p ≠ S.A j) (h2 : p ≠ S.B j) : rowOf S (j + 1) p = rowOf S j p := by
  rw [rowOf_succ, if_neg (fun e => h1 e.symm), if_neg (fun e => h2 e.symm)]; simp
end Go.Proofs

end

section
/-
  Flow: the work of a source.
-/
namespace Go.Proofs
open Go Go.AH
set_option maxRecDepth 10000
set_option maxHeartbeats 4000000

def srcE (bk : RArc → Int) (x : RArc) : List AV := [arcV x, .int .i64 (bk x)]
/-- What a source gives: its size, and its arcs. -/
structure Src (ty : TypeId) (rv : AV) (P : Nat) (l : List RArc) (bk : RArc → Int) (H : AHeap) where
  fs : FuncId
  ms : methodA Try.prog ty "minikin/flow.size" = some fs
  size : ∀ H', HLe H H' → ACalls Try.prog fs [rv] H' fun r h' => r = .int .i64 P ∧ h' = H'
  fa : FuncId
  ma : methodA Try.prog ty "minikin/flow.arcs" = some fa
  it : FuncId
  caps : List AV
  arcs : ∀ H', HLe H H' → ACalls Try.prog fa [rv] H' fun r h' => r = .fn (.func it) [] caps ∧ h' = H'
  S : AHeap → Prop
  hS : ∀ h, HLe H h → S h
  hSu : ∀ h l c, S h → h l = none → S (h.upd l c)
  iter : IterH Try.prog S (.fn (.func it) [] caps) (srcE bk) l true

structure WJ (S : Sr) (H : AHeap) (W b3 b4 : Nat) (j : Nat) (rb : Nat → Option Nat) (h : AHeap) : Prop where
  le : HLe H h
  c3 : h b3 = some (.cells [.ptr W 0])
  c4 : h b4 = some (.cells [.int .i64 ((2 * j : Nat) : Int)])
  cW : h W = some (.cells (wC S.P (wTo S j) (wLeft S j) (grow rb S j)))
  nil : ∀ p, rb p = none ↔ rowOf S j p = []
  row : ∀ p q, rb p = some q → h q = some (.cells (natC (rowOf S j p))) ∧ q ≠ W ∧ q ≠ b3 ∧ q ≠ b4 ∧ H q = none
  inj : ∀ p p' q, rb p = some q → rb p' = some q → p = p'

theorem mem_blkS_ownV {o : Option Nat} {n es b : Nat} : b ∈ blkS (ownV o n es) ↔ o = some b := by
  cases o with
  | none => simp [blkS]
  | some x => simp [blkS, eq_comm]

theorem w_newWork {ty : TypeId} {rv : AV} {P : Nat} {l : List RArc} {bk : RArc → Int} {H : AHeap} (s : Src ty rv P l bk H) (O : ArcsOk P l bk) (h1 : rv.one = true ∨ True) :
    ACalls Try.prog 54 [.iface ty rv] H fun r h' => ∃ W, H W = none ∧ r = .ptr W 0 ∧ h' = H.upd W (.cells (wC P (wTo (srOf P l bk) l.length) (wLeft (srOf P l bk) l.length) fun p => natL (rowOf (srOf P l bk) l.length p))) := by
  refine acalls_of Try.func54 rfl Try.call54 (by kernel_rfl) (by show _ ≤ (80 : Nat); simp) ?_
  have ok := srOf_ok O
  obtain ⟨S, hS⟩ : ∃ S, S = srOf P l bk := ⟨_, rfl⟩
  have hSP : S.P = P := by rw [hS]; rfl
  have hSm : S.m = l.length := by rw [hS]; rfl
  rw [← hS] at ok ⊢
  simp [-Try.zeroT119, zeroW]
  unfold invRes
  simp only [s.ms]
  refine (s.size H (HLe.refl H)).use ?_
  simp [-Try.zeroT119, zeroW]
  intro W hW
  simp
  intro b3 hb3
  simp at hb3
  simp [hb3, splice]
  intro b4 hb4
  simp at hb4
  simp [hb4, splice]
  have nW : H W = none := by simpa [Fresh] using hW
  have n3 : H b3 = none := by simpa [Fresh] using hb3.2.2
  have n4 : H b4 = none := by simpa [Fresh] using hb4.2.2.2.2
  have hle : HLe H (((H.upd W (.cells (wC P (fun _ => 0) (fun _ => 0) fun _ => .nilsl))).upd b3 (.cells [.ptr W 0])).upd b4 (.cells [.int .i64 0])) :=
    (((HLe.refl H).new hW).new hb3.2.2).new hb4.2.2.2.2
  unfold invRes
  simp only [s.ma]
  refine (s.arcs _ hle).use ?_
  simp
  have hrun : ∀ (L : List RArc) (g : Nat), runIt (fun (g : Nat) (_ : RArc) => g + 1) (fun _ => (none : Option Exit).isNone) g L = g + L.length := by
    intro L
    induction L with
    | nil => intro g; rfl
    | cons x L ih => intro g; have := ih (g + 1); simp only [runIt, Option.isNone_none, if_true, List.length_cons] at this ⊢; omega
  have hfold : ∀ (L : List RArc) (g : Nat), L.foldl (fun (g : Nat) (_ : RArc) => g + 1) g = g + L.length := by
    intro L
    induction L with
    | nil => intro g; rfl
    | cons x L ih => intro g; simp only [List.foldl_cons, List.length_cons]; rw [ih]; omega
  refine awp_iterH (S := s.S) s.hSu (by simp) s.iter (fun (g : Nat) h => ∃ rb, WJ S H W b3 b4 g rb h) (fun g h hJ => by obtain ⟨rb, J⟩ := hJ; exact s.hS _ J.le) (fun g _ => g + 1) (fun _ => none) 0 rfl ⟨fun _ => none, ?_⟩ (by kernel_rfl) (by kernel_rfl) (by simp) (by intro a _; simp [srcE]) (.inl rfl) ?_ (by intro g e he; cases he) ?_
  · refine ⟨hle, ?_, ?_, ?_, fun p => by simp [rowOf], ?_, ?_⟩
    rotate_right 2
    · intro p q e; cases e
    · intro p p' q e; cases e
    · simp [AHeap.upd, hb4, hb3]
    · simp [AHeap.upd]
    · have e1 : wTo S 0 = fun _ => 0 := by funext k; simp [wTo]
      have e2 : wLeft S 0 = fun _ => 0 := by funext k; simp [wLeft]
      have e3 : grow (fun _ => none) S 0 = fun _ => AV.nilsl := by funext k; rfl
      rw [e1, e2, e3, hSP]
      simp [AHeap.upd, hb4, hb3]
  · rintro lp i g x h ha0 hg _ ⟨rb, J⟩
    rw [hfold, Nat.zero_add, List.length_take] at hg
    have hil : i < l.length := by
      rcases Nat.lt_or_ge i l.length with q | q
      · exact q
      · rw [List.getElem?_eq_none q] at ha0; cases ha0
    obtain rfl : g = i := by omega
    obtain ⟨le, c3, c4, cW, cn, cr, ci⟩ := J
    have hx : l.getD g ⟨0, 0, 0⟩ = x := by rw [List.getD_eq_getElem?_getD, ha0]; rfl
    have hxo := arcOk_iff.1 (O.ok x (List.mem_of_getElem? ha0))
    have hbk := O.bk x (List.mem_of_getElem? ha0)
    obtain ⟨p, hp⟩ : ∃ p : Nat, x.a = p := ⟨x.a.toNat, by omega⟩
    obtain ⟨q, hq⟩ : ∃ q : Nat, x.b = q := ⟨x.b.toNat, by omega⟩
    have hA : S.A g = p := by rw [hS]; show (l.getD g ⟨0, 0, 0⟩).a.toNat = p; rw [hx]; omega
    have hB : S.B g = q := by rw [hS]; show (l.getD g ⟨0, 0, 0⟩).b.toNat = q; rw [hx]; omega
    have hC : S.C g = x.c := by rw [hS]; show (l.getD g ⟨0, 0, 0⟩).c = x.c; rw [hx]
    have hD : S.D g = bk x := by rw [hS]; show bk (l.getD g ⟨0, 0, 0⟩) = bk x; rw [hx]
    have hpq : p ≠ q := by omega
    have hP24 := O.P24
    have hl200 := O.len
    have hp24 : p < 24 := by omega
    have hq24 : q < 24 := by omega
    have k0 : 2 * g + 1 < 400 := by omega
    simp [srcE, arcV, putsA, hp, hq]
    have d3 : ∀ off, cellsAt h b3 off = some (([.ptr W 0] : List AV).drop off) := fun off => cellsAt_eq c3
    have d4 : ∀ off, cellsAt h b4 off = some (([.int .i64 ((2 * g : Nat) : Int)] : List AV).drop off) := fun off => cellsAt_eq c4
    have dW : ∀ off, cellsAt h W off = some ((wC S.P (wTo S g) (wLeft S g) (grow rb S g)).drop off) := fun off => cellsAt_eq cW
    intro b5 hb5
    have m3 := ne_fresh (d3 0) hb5
    have m4 := ne_fresh (d4 0) hb5
    have mW := ne_fresh (dW 0) hb5
    have w1 : IntKind.i64.wrap (((2 * g : Nat) : Int) + 1) = ((2 * g + 1 : Nat) : Int) := by rw [wrap_i64 (by omega) (by omega)]; omega
    have w2 : IntKind.i64.wrap (((2 * g : Nat) : Int) + 2) = ((2 * (g + 1) : Nat) : Int) := by rw [wrap_i64 (by omega) (by omega)]; omega
    obtain ⟨k, hk⟩ : ∃ k, k = 2 * g := ⟨_, rfl⟩
    rw [← hk] at d4 w1 w2 k0
    have k1 : k < 400 := by omega
    obtain ⟨k', hk'⟩ : ∃ k', k' = k + 1 := ⟨_, rfl⟩
    rw [← hk'] at w1 k0
    have k1I : (k : Int) < 400 := by omega
    have k0I : (k' : Int) < 400 := by omega
    have p24I : (p : Int) < 24 := by omega
    have q24I : (q : Int) < 24 := by omega
    obtain ⟨To, hTo⟩ : ∃ To, To = wTo S g := ⟨_, rfl⟩
    obtain ⟨Lf, hLf⟩ : ∃ Lf, Lf = wLeft S g := ⟨_, rfl⟩
    obtain ⟨Ro, hRo⟩ : ∃ Ro, Ro = grow rb S g := ⟨_, rfl⟩
    rw [← hTo, ← hLf, ← hRo] at dW
    simp [hb5, m3, m4, mW, d3, d4, dW, splice]
    have z1 : 1 + k ≤ 824 := by omega
    have z2 : 401 + k ≤ 824 := by omega
    have z3 : 1 + k' ≤ 824 := by omega
    have z4 : 401 + k' ≤ 824 := by omega
    refine awp_drawM (by kernel_rfl) (fun b => if b = b3 then 1 else if b = b4 then 2 else if b = W then 3 else if b = b5 then 4 else 0) [[1], [2], [1], [2], [], [4], [], [4], [], [], [], [3], [], [], [], [3]] (by kernel_rfl) (by kernel_rfl) ?_
    simp [hb5, hb3, hb4, m3, m4, mW, d3, d4, dW, k1, k1I, sp_to, sp_left, z1, z2]
    refine awp_drawM (by kernel_rfl) (fun b => if b = b3 then 1 else if b = b4 then 2 else if b = W then 3 else if b = b5 then 4 else 0) [[1], [2], [], [1], [2], [], [], [4], [], [], [], [], [3], [], [], [], [3]] (by kernel_rfl) (by kernel_rfl) ?_
    simp [hb5, hb3, hb4, m3, m4, mW, d3, d4, dW, w1, k0, k0I, sp_to, sp_left, z3, z4]
    have eTo : upf (upf To k (q : Int)) k' (p : Int) = wTo S (g + 1) := by rw [← wTo_succ, hTo, hA, hB, hk', hk]
    have eLf : upf (upf Lf k x.c) k' (bk x) = wLeft S (g + 1) := by rw [← wLeft_succ, hLf, hC, hD, hk', hk]
    rw [eTo, eLf]
    obtain ⟨T1, hT1⟩ : ∃ T1, T1 = wTo S (g + 1) := ⟨_, rfl⟩
    obtain ⟨L1, hL1⟩ : ∃ L1, L1 = wLeft S (g + 1) := ⟨_, rfl⟩
    rw [← hT1, ← hL1]
    obtain ⟨oa, hoa⟩ : ∃ oa, oa = rb p := ⟨_, rfl⟩
    obtain ⟨ob, hob⟩ : ∃ ob, ob = rb q := ⟨_, rfl⟩
    have hRp : Ro p = ownV oa (rowOf S g p).length 1 := by rw [hRo, hoa]; rfl
    have hRq : Ro q = ownV ob (rowOf S g q).length 1 := by rw [hRo, hob]; rfl
    have lena := rowOf_len (S := S) (n := g) (p := p)
    have lenb := rowOf_len (S := S) (n := g) (p := q)
    have ca := fun x (e : oa = some x) => cr p x (hoa ▸ e)
    have cb := fun x (e : ob = some x) => cr q x (hob ▸ e)
    have b5r : ∀ p x, rb p = some x → x ≠ b5 := fun p x e => (ne_fresh (cellsAt_eq (off := 0) (cr p x e).1) hb5).1
    have ca5 := fun x (e : oa = some x) => b5r p x (hoa ▸ e)
    have cb5 := fun x (e : ob = some x) => b5r q x (hob ▸ e)
    have cab : ∀ x, oa = some x → ob = some x → False := fun x e1 e2 => hpq (ci p q x (hoa ▸ e1) (hob ▸ e2))
    obtain ⟨na, hna⟩ : ∃ na, na = (rowOf S g p).length := ⟨_, rfl⟩
    obtain ⟨nb, hnb⟩ : ∃ nb, nb = (rowOf S g q).length := ⟨_, rfl⟩
    rw [← hna] at hRp lena
    rw [← hnb] at hRq lenb
    have z5 : 801 + p ≤ 824 := by omega
    have z6 : 801 + q ≤ 824 := by omega
    refine awp_drawM (by kernel_rfl) (fun b => if b = b3 then 1 else if b = b4 then 2 else if b = W then 3 else if b = b5 then 4 else if oa = some b then 5 else if ob = some b then 6 else 0)
      [[1], [], [4], [1], [], [4], [1], [], [4], [], [], [], [3], [2], [], [5, 0], [1], [], [4], [], [], [], [3], [2], [], [], [6, 0], [], [], [], [3], [], [], [], [3]] (by kernel_rfl) (by kernel_rfl) ?_
    simp [hb5, hb3, hb4, m3, m4, mW, d3, d4, dW, p24I, q24I, hp24, hq24, dr_row, hRp, hRq]
    intro b6 hb6
    simp at hb6
    simp [hb6]
    have hb6h : h b6 = none := by have := hb6; simpa [Fresh] using this.2.2.2.2
    have hb5h : h b5 = none := by simpa [Fresh] using hb5
    have ca6 := fun x (e : oa = some x) => show x ≠ b6 from fun q => by have := (ca x e).1; rw [q, hb6h] at this; cases this
    have cb6 := fun x (e : ob = some x) => show x ≠ b6 from fun q => by have := (cb x e).1; rw [q, hb6h] at this; cases this
    have m36 := ne_fresh (d3 0) (show Fresh h b6 from by simpa [Fresh] using hb6h)
    have m46 := ne_fresh (d4 0) (show Fresh h b6 from by simpa [Fresh] using hb6h)
    refine ⟨fun b hb => ?_, ?_⟩
    · rcases hb with hb | rfl
      · have hb := mem_blkS_ownV.1 hb
        obtain ⟨_, e1, e2, e3, _⟩ := ca b hb
        have e5 := ca5 b hb
        simp [hb, e1, e2, e3, e5]
      · have e1 : ¬ oa = some b := fun e => ca6 b e rfl
        have e2 : ¬ ob = some b := fun e => cb6 b e rfl
        simp [e1, e2, hb6, m36, m46]
    refine appendK_own (cs := natC (rowOf S g p)) (by omega) (by omega) ?_ (by simp [hna]) ?_ fun b7 hb7 => ?_
    · intro e
      have := (cn p).1 (hoa ▸ e)
      rw [hna, this]; exact ⟨rfl, rfl⟩
    · intro x e
      obtain ⟨e0, e1, e2, e3, _⟩ := ca x e
      rw [AHeap.upd_ne (ca6 x e), AHeap.upd_ne e1, AHeap.upd_ne (ca5 x e)]
      exact e0
    have f7 : b7 ≠ b3 ∧ b7 ≠ b4 ∧ b7 ≠ W ∧ b7 ≠ b5 ∧ b7 ≠ b6 ∧ H b7 = none ∧ (∀ p' x, rb p' = some x → x = b7 → p' = p) ∧ (oa = some b7 ∨ h b7 = none) := by
      rcases hb7 with e | e
      · obtain ⟨e0, e1, e2, e3, e4⟩ := ca b7 e
        exact ⟨e2, e3, e1, ca5 b7 e, ca6 b7 e, e4, fun p' x he hx => ci p' p b7 (hx ▸ he) (hoa ▸ e), .inl e⟩
      · simp at e
        have e6 : Fresh h b7 := e.2.2.2.2.2.2
        have hn : h b7 = none := by simpa [Fresh] using e6
        refine ⟨(ne_fresh (d3 0) e6).2, (ne_fresh (d4 0) e6).2, e.2.2.1, e.2.2.2.2.1, e.1, ?_, fun p' x he hx => ?_, .inr hn⟩
        · cases hH : H b7 with
          | none => rfl
          | some c => rw [le b7 c hH] at hn; cases hn
        · have := (cr p' x he).1
          rw [hx, hn] at this; cases this
    obtain ⟨f73, f74, f7W, f75, f76, f7H, f7r, f7o⟩ := f7
    have f7q : ¬ ob = some b7 := fun e => hpq (f7r q b7 (hob ▸ e) rfl).symm
    simp [hb5, hb3, hb4, m3, m4, mW, m36, m46, d3, d4, dW, p24I, q24I, hp24, hq24, dr_row, hRp, hRq, f73, f74, f7W, f75, f76, f73.symm, f74.symm, f7W.symm, f75.symm, f76.symm, hb6, w1]
    intro b8 hb8
    simp at hb8
    simp [hb8]
    have hb8h : h b8 = none := by have := hb8; simpa [Fresh] using this.2.2.2.2.2.2.2.2
    have hb8f : Fresh h b8 := by simpa [Fresh] using hb8h
    have ca8 := fun x (e : oa = some x) => show x ≠ b8 from fun q => by have := (ca x e).1; rw [q, hb8h] at this; cases this
    have cb8 := fun x (e : ob = some x) => show x ≠ b8 from fun q => by have := (cb x e).1; rw [q, hb8h] at this; cases this
    have m38 := ne_fresh (d3 0) hb8f
    have m48 := ne_fresh (d4 0) hb8f
    refine ⟨fun b hb => ?_, ?_⟩
    · rcases hb with hb | rfl
      · have hb := mem_blkS_ownV.1 hb
        obtain ⟨_, e1, e2, e3, _⟩ := cb b hb
        have e5 := cb5 b hb
        have e6 : ¬ oa = some b := fun e => cab b e hb
        simp [hb, e1, e2, e3, e5, e6]
      · have e1 : ¬ oa = some b := fun e => ca8 b e rfl
        have e2 : ¬ ob = some b := fun e => cb8 b e rfl
        simp [e1, e2, hb8, m38, m48]
    refine appendK_own (cs := natC (rowOf S g q)) (by omega) (by omega) ?_ (by simp [hnb]) ?_ fun b9 hb9 => ?_
    · intro e
      have := (cn q).1 (hob ▸ e)
      rw [hnb, this]; exact ⟨rfl, rfl⟩
    · intro x e
      obtain ⟨e0, e1, e2, e3, _⟩ := cb x e
      have e7 : x ≠ b7 := fun q => f7q (q ▸ e)
      rw [AHeap.upd_ne (cb8 x e), AHeap.upd_ne e7, AHeap.upd_ne (cb6 x e), AHeap.upd_ne e1, AHeap.upd_ne (cb5 x e)]
      exact e0
    have f9 : b9 ≠ b3 ∧ b9 ≠ b4 ∧ b9 ≠ W ∧ b9 ≠ b5 ∧ b9 ≠ b6 ∧ b9 ≠ b7 ∧ b9 ≠ b8 ∧ H b9 = none ∧ (∀ p' x, rb p' = some x → x = b9 → p' = q) := by
      rcases hb9 with e | e
      · obtain ⟨e0, e1, e2, e3, e4⟩ := cb b9 e
        exact ⟨e2, e3, e1, cb5 b9 e, cb6 b9 e, fun q => f7q (q ▸ e), cb8 b9 e, e4, fun p' x he hx => ci p' q b9 (hx ▸ he) (hob ▸ e)⟩
      · simp at e
        have e6 : Fresh h b9 := by simp [e]
        have hn : h b9 = none := by simpa [Fresh] using e6
        refine ⟨(ne_fresh (d3 0) e6).2, (ne_fresh (d4 0) e6).2, by simp [e], by simp [e], by simp [e], by simp [e], by simp [e], ?_, fun p' x he hx => ?_⟩
        · cases hH : H b9 with
          | none => rfl
          | some c => rw [le b9 c hH] at hn; cases hn
        · have := (cr p' x he).1
          rw [hx, hn] at this; cases this
    obtain ⟨f93, f94, f9W, f95, f96, f97, f98, f9H, f9r⟩ := f9
    simp [hb5, hb3, hb4, m3, m4, mW, m36, m46, m38, m48, d3, d4, dW, p24I, q24I, hp24, hq24, sp_row, f93, f94, f9W, f95, f96, f97, f98, f93.symm, f94.symm, f9W.symm, f95.symm, f96.symm, f97.symm, f98.symm, f73, f74, f7W, f75, f76, f73.symm, f74.symm, f7W.symm, f75.symm, f76.symm, hb6, hb8, z5, z6, w2]
    have hup : ∀ {h1 : AHeap} {b : Nat} {c : Chunk}, HLe H h1 → H b = none → HLe H (h1.upd b c) := fun {h1 b c} x e b' c' e' => by
      have hne : b' ≠ b := fun q => by rw [q, e] at e'; cases e'
      rw [AHeap.upd_ne hne]; exact x b' c' e'
    have hH : ∀ {b : Nat}, h b = none → H b = none := fun {b} e => by
      cases hb : H b with
      | none => rfl
      | some c => rw [le b c hb] at e; cases e
    have hqp : ¬ q = p := fun e => hpq e.symm
    refine ⟨_, Drop.refl _, upf (upf rb p (some b7)) q (some b9), ?_⟩
    refine ⟨hup (hup (hup (hup (hup (hup (hup le (hH hb5h)) nW) (hH hb6h)) f7H) (hH hb8h)) f9H) n4, ?_, ?_, ?_, ?_, ?_, ?_⟩
    · rw [AHeap.upd_ne hb4.2.1, AHeap.upd_ne f93.symm, AHeap.upd_ne m38.1, AHeap.upd_ne f73.symm, AHeap.upd_ne m36.1, AHeap.upd_ne hb3.1, AHeap.upd_ne m3.1]
      exact c3
    · simp [AHeap.upd]; try omega
    · have e1 : grow (upf (upf rb p (some b7)) q (some b9)) S (g + 1) = upf (upf Ro p (.osl b7 0 (na + 1) 1)) q (.osl b9 0 (nb + 1) 1) := by
        funext p'
        unfold grow upf
        by_cases e1 : p' = q
        · subst e1
          have := rowOf_b (S := S) (j := g) (by rw [hA, hB]; exact hpq)
          rw [hB] at this
          rw [this]
          simp [hnb]
        · by_cases e2 : p' = p
          · subst e2
            have := rowOf_a (S := S) (j := g) (by rw [hA, hB]; exact hpq)
            rw [hA] at this
            rw [this]
            simp [hna, e1]
          · rw [rowOf_o (by rw [hA]; exact e2) (by rw [hB]; exact e1)]
            simp only [e1, e2, if_false]
            rw [hRo]; rfl
      rw [e1, ← hT1, ← hL1]
      have e9W := f9W.symm
      have e7W := f7W.symm
      rw [AHeap.upd_ne hb4.2.2.2.1, AHeap.upd_ne e9W, AHeap.upd_ne (by simp [hb8]), AHeap.upd_ne e7W, AHeap.upd_ne (by simp [hb6])]
      simp [AHeap.upd]
    · intro p'
      unfold upf
      by_cases e1 : p' = q
      · subst e1
        have := rowOf_b (S := S) (j := g) (by rw [hA, hB]; exact hpq)
        rw [hB] at this
        rw [this]
        simp
      · rw [if_neg e1]
        by_cases e2 : p' = p
        · subst e2
          have := rowOf_a (S := S) (j := g) (by rw [hA, hB]; exact hpq)
          rw [hA] at this
          rw [this]
          simp
        · rw [if_neg e2, rowOf_o (by rw [hA]; exact e2) (by rw [hB]; exact e1)]
          exact cn p'
    · intro p' x' e
      unfold upf at e
      by_cases e1 : p' = q
      · rw [if_pos e1] at e; cases e
        subst e1
        have := rowOf_b (S := S) (j := g) (by rw [hA, hB]; exact hpq)
        rw [hB] at this
        rw [this]
        refine ⟨?_, f9W, f93, f94, f9H⟩
        rw [AHeap.upd_ne f94]
        simp [AHeap.upd, natC, hk', hk]
      · rw [if_neg e1] at e
        by_cases e2 : p' = p
        · rw [if_pos e2] at e; cases e
          subst e2
          have := rowOf_a (S := S) (j := g) (by rw [hA, hB]; exact hpq)
          rw [hA] at this
          rw [this]
          refine ⟨?_, f7W, f73, f74, f7H⟩
          rw [AHeap.upd_ne f74, AHeap.upd_ne f97.symm, AHeap.upd_ne (by simp [hb8])]
          simp [AHeap.upd, natC, hk]
        · rw [if_neg e2] at e
          obtain ⟨e3, e4, e5, e6, e7⟩ := cr p' x' e
          rw [rowOf_o (by rw [hA]; exact e2) (by rw [hB]; exact e1)]
          refine ⟨?_, e4, e5, e6, e7⟩
          have g9 : x' ≠ b9 := fun q => e1 (f9r p' x' e q)
          have g7 : x' ≠ b7 := fun q => e2 (f7r p' x' e q)
          have g8 : x' ≠ b8 := fun q => by rw [q, hb8h] at e3; cases e3
          have g6 : x' ≠ b6 := fun q => by rw [q, hb6h] at e3; cases e3
          rw [AHeap.upd_ne e6, AHeap.upd_ne g9, AHeap.upd_ne g8, AHeap.upd_ne g7, AHeap.upd_ne g6, AHeap.upd_ne e4, AHeap.upd_ne (b5r p' x' e)]
          exact e3
    · intro p' p2 x' e e'
      unfold upf at e e'
      by_cases e1 : p' = q
      · rw [if_pos e1] at e; cases e
        by_cases d1 : p2 = q
        · rw [e1, d1]
        · rw [if_neg d1] at e'
          by_cases d2 : p2 = p
          · rw [if_pos d2] at e'; cases e'; exact absurd rfl f97
          · rw [if_neg d2] at e'; exact absurd (f9r p2 _ e' rfl) d1
      · rw [if_neg e1] at e
        by_cases e2 : p' = p
        · rw [if_pos e2] at e; cases e
          by_cases d1 : p2 = q
          · rw [if_pos d1] at e'; cases e'; exact absurd rfl f97
          · rw [if_neg d1] at e'
            by_cases d2 : p2 = p
            · rw [e2, d2]
            · rw [if_neg d2] at e'; exact absurd (f7r p2 _ e' rfl) d2
        · rw [if_neg e2] at e
          by_cases d1 : p2 = q
          · rw [if_pos d1] at e'; cases e'; exact absurd (f9r p' _ e rfl) e1
          · rw [if_neg d1] at e'
            by_cases d2 : p2 = p
            · rw [if_pos d2] at e'; cases e'; exact absurd (f7r p' _ e rfl) e2
            · rw [if_neg d2] at e'; exact ci p' p2 x' e e'
  · rintro h' ⟨rb, J⟩
    rw [hrun, Nat.zero_add] at J
    obtain ⟨le, c3, c4, cW, cn, cr, ci⟩ := J
    have d3 : ∀ off, cellsAt h' b3 off = some (([.ptr W 0] : List AV).drop off) := fun off => cellsAt_eq c3
    simp [d3]
    refine ⟨2, H.upd W (.cells (wC P (wTo S l.length) (wLeft S l.length) fun p => natL (rowOf S l.length p))), .ptr W 0, fun b => ?_, .inl rfl, W, nW, rfl, rfl⟩
    by_cases hb : b = W
    · subst hb
      refine .inr (.inr ⟨_, cW, ?_⟩)
      rw [wC_map _ (fun n => rfl), hSP]
      simp only [AHeap.upd, if_true]
      congr 3
      funext p
      unfold grow
      cases e : rb p with
      | none =>
        rw [(cn p).1 e]; rfl
      | some x =>
        obtain ⟨e3, e4, e5, e6, e7⟩ := cr p x e
        have hne : rowOf S l.length p ≠ [] := fun q => by rw [(cn p).2 q] at e; cases e
        have hx : Fresh (H.upd b (.cells (wC P (wTo S l.length) (wLeft S l.length) fun p => natL (rowOf S l.length p)))) x := by
          unfold Fresh
          rw [AHeap.upd_ne e4]; exact e7
        rw [ownV_some, frz_osl hx, cellsAt_eq e3]
        simp only [List.drop_zero, natC_length, Nat.mul_one, Nat.zero_add, Nat.le_refl, if_true]
        rw [List.take_of_length_le (by simp), map_frozen natC_frozen]
        unfold natL
        rw [if_neg hne]
    · rw [AHeap.upd_ne hb]
      cases e : H b with
      | none => exact .inl rfl
      | some c => exact .inr (.inl (le b c e).symm)
end Go.Proofs

end

section
/-
  Flow: levels.
-/
namespace Go.Proofs
open Go Go.AH
set_option maxRecDepth 10000
set_option maxHeartbeats 4000000

structure LS where
  i : Nat
  q : List Nat
  lv : Nat → Int
  b : Nat
theorem lenA_natL {h : AHeap} (l : List Nat) : lenA Try.prog h 34 (natL l) = some (.int .i64 (l.length : Int)) := by
  unfold natL
  split
  · next e => subst e; simp
  · simp
theorem natC_at {l : List Nat} {i x : Nat} (e : l[i]? = some x) : (natC l).drop i = .int .i64 (x : Int) :: (natC l).drop (i + 1) := drop_of_get (by simp [natC, e])
theorem iarr_dr {n k : Nat} {f : Nat → Int} (hk : k < n) : (iarr n f).drop k = .int .i64 (f k) :: (iarr n f).drop (k + 1) := iarr_at hk
theorem iarr_sp {n k : Nat} {f : Nat → Int} {x : Int} (hk : k < n) : splice (iarr n f) k [.int .i64 x] = iarr n (upf f k x) := by
  rw [splice_one (by simpa using hk), iarr_set]
/-- A work at rest: what it says of its source. -/
structure WOk (S : Sr) (to left : Nat → Int) (rows : Nat → AV) : Prop where
  P24 : S.P ≤ 24
  m200 : S.m ≤ 200
  to : ∀ k, k < 2 * S.m → to k = S.hd k
  rows : ∀ p, p < S.P → rows p = natL (rowOf S S.m p)
theorem w_levels {S : Sr} {to left : Nat → Int} {rows : Nat → AV} {W : Nat} {H : AHeap} (ok : S.Ok) (O : WOk S to left rows) (hW : H W = some (.cells (wC S.P to left rows))) (s : Nat) (hs : s < S.P) :
    ACalls Try.prog 76 [.ptr W 0, .int .i64 s] H fun r h' => h' = H ∧ ∃ lv, r = .agg (iarr 24 lv) ∧ Lv S s left lv ∧ ∀ p, lv p < 24 ∧ (0 ≤ lv p → p < S.P) := by
  refine acalls_of Try.func76 rfl Try.call76 (by kernel_rfl) (by show _ ≤ (76 : Nat); simp) ?_
  obtain ⟨P24, m200, hto, hrows⟩ := O
  have dW : ∀ off, cellsAt H W off = some ((wC S.P to left rows).drop off) := fun off => cellsAt_eq hW
  simp [-Try.zeroT148, zero24]
  intro b4 hb4
  have m4 := ne_fresh (dW 0) hb4
  simp [-Try.zeroT148, zero24]
  intro b5 hb5
  simp at hb5
  have m5 := ne_fresh (dW 0) hb5.2.2
  simp [hb5]
  refine awp_loop_g (γ := Nat) (fun i t h => (i ≤ 24) ∧ t 0 = .ptr W 0 ∧ t 1 = .int .i64 s ∧ t 4 = .ptr b4 0 ∧ t 5 = .ptr b5 0 ∧ t 12 = .int .i64 i ∧ h = (H.upd b4 (.cells (iarr 24 fun _ => 0))).upd b5 (.cells (iarr 24 fun p => if p < i then -1 else 0))) (fun i => 24 - i) (0) (turnA_self (by simp [hb5])) ?_
  rintro i t h ⟨hi, h0, h1, h4, h5, h12, rfl⟩
  by_cases hlt : i < 24
  · have hwi : IntKind.i64.wrap ((i : Int) + 1) = (i : Int) + 1 := wrap_i64 (by omega) (by omega)
    have hiI : (i : Int) < 24 := by omega
    have hi1 : i ≤ 23 := by omega
    have eU : upf (fun p => if p < i then (-1 : Int) else 0) i (-1) = fun p => if p < i + 1 then (-1 : Int) else 0 := by
      funext p
      unfold upf
      by_cases e : p = i
      · rw [if_pos e, if_pos (by omega)]
      · rw [if_neg e]
        by_cases e2 : p < i
        · simp only [e2, if_true]; rw [if_pos (by omega)]
        · simp only [e2, if_false]; rw [if_neg (by omega)]
    simp [h0, h1, h4, h5, h12, hlt, hiI, hb5, iarr_set, eU, hi1]
    exact turnA_self ⟨i + 1, by omega, by omega, by simp [h0, h1, h4, h5, h12, hwi]⟩
  · obtain rfl : i = 24 := by omega
    have eU : (iarr 24 fun p => if p < 24 then (-1 : Int) else 0) = iarr 24 fun _ => -1 := iarr_congr fun i hi => by rw [if_pos hi]
    have s24 : s < 24 := by omega
    have s24I : (s : Int) < 24 := by omega
    have s23 : s ≤ 23 := by omega
    rw [eU]
    simp [h0, h1, h4, h5, h12, hb5, s24, s24I, s23, iarr_set]
    intro b6 hb6
    simp at hb6
    have m6 := ne_fresh (dW 0) hb6.2.2.2.2
    simp [h0, h1, h4, h5, h12, hb6]
    refine awp_loop_g (γ := LS) (fun x t h => (x.i ≤ x.q.length) ∧ (Bfs S s left x.i x.q x.lv) ∧ (Fresh H x.b ∧ ¬ x.b = b4 ∧ ¬ x.b = b5) ∧ t 0 = .ptr W 0 ∧ t 1 = .int .i64 s ∧ t 4 = .ptr b4 0 ∧ t 5 = .ptr b5 0 ∧ t 7 = .osl x.b 0 x.q.length 1 ∧ t 8 = .int .i64 x.i ∧ h = ((H.upd b4 (.cells (iarr 24 fun _ => 0))).upd b5 (.cells (iarr 24 x.lv))).upd x.b (.cells (natC x.q))) (fun x => 25 - x.i) (⟨0, [s], upf (fun _ => -1) s 0, b6⟩) (turnA_self (by simp [hb6, natC, h0, h1, h4, h5, h12, Bfs.init hs])) ?_
    rintro x t hx ⟨hi, hB, hf, h0, h1, h4, h5, h7, h8, ex⟩
    rw [ex]
    clear ex
    obtain ⟨i, q, lv, b7⟩ := x
    simp only at h0 h1 h4 h5 h7 h8 hi hB hf
    obtain ⟨f7, f74, f75⟩ := hf
    have g5 : ¬ b5 = b7 := fun e => f75 e.symm
    have g4 : ¬ b4 = b7 := fun e => f74 e.symm
    have m7 := ne_fresh (dW 0) f7
    have ql := hB.len
    by_cases c7 : i < q.length
    · have hiI : (i : Int) < (q.length : Int) := by omega
      obtain ⟨u, hu⟩ : ∃ u, u = q[i] := ⟨_, rfl⟩
      have hu' : q[i]? = some u := by rw [hu]; exact List.getElem?_eq_getElem c7
      have hum : u ∈ q := List.mem_of_getElem? hu'
      have huP := hB.lt u hum
      have u24 : u < 24 := by omega
      have u24I : (u : Int) < 24 := by omega
      obtain ⟨R, hR⟩ : ∃ R, R = rowOf S S.m u := ⟨_, rfl⟩
      have hRu : rows u = natL R := by rw [hrows u huP, hR]
      simp [h0, h1, h4, h5, h7, h8, c7, hiI, f74, f75, g4, g5]
      refine awp_draw_text (by kernel_rfl) [] [] (by kernel_rfl) (by kernel_rfl) (by simp) ?_
      simp [h0, h1, h4, h5, h7, h8, c7, hiI, f74, f75, m7, m5, m4, dW, natC_at hu', u24, u24I, dr_row, hRu, -lenA, lenA_natL]
      refine awp_loop_g (γ := LS) (fun x t h => (x.i ≤ R.length) ∧ (Bfs S s left i x.q x.lv) ∧ (x.q[i]? = some u) ∧ (∀ k, k ∈ R.take x.i → 0 < left k → 0 ≤ x.lv (S.hd k)) ∧ (Fresh H x.b ∧ ¬ x.b = b4 ∧ ¬ x.b = b5) ∧ t 0 = .ptr W 0 ∧ t 1 = .int .i64 s ∧ t 4 = .ptr b4 0 ∧ t 5 = .ptr b5 0 ∧ t 7 = .osl x.b 0 x.q.length 1 ∧ t 8 = .int .i64 i ∧ t 36 = natL R ∧ t 37 = .int .i64 R.length ∧ t 38 = .int .i64 x.i ∧ h = ((H.upd b4 (.cells (iarr 24 fun _ => 0))).upd b5 (.cells (iarr 24 x.lv))).upd x.b (.cells (natC x.q))) (fun x => R.length - x.i) (⟨0, q, lv, b7⟩) (turnA_self (by simp [f7, f74, f75, h0, h1, h4, h5, h7, h8, hB, hu'])) ?_
      rintro x t hx ⟨hi, hB2, hu2, hk, hf, h0, h1, h4, h5, h7, h8, h36, h37, h38, ex⟩
      clear hB hu' hum c7 hiI ql hu m7 f7 f74 f75
      rw [ex]
      clear ex
      obtain ⟨c, q, lv, b7⟩ := x
      simp only at h0 h1 h4 h5 h7 h8 h36 h37 h38 hi hB2 hu2 hk hf
      obtain ⟨f7, f74, f75⟩ := hf
      have g5 : ¬ b5 = b7 := fun e => f75 e.symm
      have g4 : ¬ b4 = b7 := fun e => f74 e.symm
      have m7 := ne_fresh (dW 0) f7
      have ql := hB2.len
      have hum : u ∈ q := List.mem_of_getElem? hu2
      have hil : i < q.length := by
        rcases Nat.lt_or_ge i q.length with h | h
        · exact h
        · rw [List.getElem?_eq_none h] at hu2; cases hu2
      have hiI : (i : Int) < (q.length : Int) := by omega
      by_cases c8 : c < R.length
      · have hcI : (c : Int) < (R.length : Int) := by omega
        have wc : IntKind.i64.wrap ((c : Int) + 1) = (c : Int) + 1 := by
          have := rowOf_len (S := S) (n := S.m) (p := u)
          rw [← hR] at this
          exact wrap_i64 (by omega) (by omega)
        obtain ⟨k, hkc⟩ : ∃ k, k = R[c] := ⟨_, rfl⟩
        have hk' : R[c]? = some k := by rw [hkc]; exact List.getElem?_eq_getElem c8
        have hkR : k ∈ rowOf S S.m u := hR ▸ List.mem_of_getElem? hk'
        obtain ⟨hk2, hkt⟩ := mem_rowOf.1 hkR
        have k400 : k < 400 := by omega
        have k400I : (k : Int) < 400 := by omega
        have hdP := hd_lt ok hk2
        have hd24 : S.hd k < 24 := by omega
        have hd24I : (S.hd k : Int) < 24 := by omega
        have hd23 : S.hd k ≤ 23 := by omega
        have hne : ¬ R = [] := fun e => by rw [e] at c8; simp at c8
        have hV : natL R = .sl R.length (natC R) := by unfold natL; rw [if_neg hne]
        have htk := hto k hk2
        have htake : R.take (c + 1) = R.take c ++ [k] := by rw [List.take_succ_eq_append_getElem c8, hkc]
        obtain ⟨v, hv⟩ : ∃ v, v = S.hd k := ⟨_, rfl⟩
        rw [← hv] at hdP hd24 hd24I hd23 htk
        have u24 : u < 24 := by omega
        have u24I : (u : Int) < 24 := by omega
        have hsm := hB2.small u
        have hlo := hB2.low u
        have wu : IntKind.i64.wrap (lv u + 1) = lv u + 1 := wrap_i64 (by omega) (by omega)
        simp [h0, h1, h4, h5, h7, h8, h36, h37, h38, c8, hcI, hV, natC_at hk']
        simp [h0, h1, h4, h5, h7, h8, h36, h37, h38, m7, m5, m4, f74, f75, dW, k400, k400I, dr_to, gt_to, htk]
        by_cases hl : 0 < left k
        · by_cases hn : lv v < 0
          · simp [h0, h1, h4, h5, h7, h8, h36, h37, h38, m7, m5, m4, f74, f75, g4, g5, hb5, dW, k400, k400I, dr_left, gt_left, iarr_get, hl, hn, hd24, hd24I, iarr_dr, natC_at hu2, hil, hiI, u24, u24I, wu, iarr_set, hd23]
            intro b8 hb8
            simp at hb8
            have hbd := hB2.add ok hu2 hk2 hkt hl (by rw [← hv]; exact hn)
            rw [← hv] at hbd
            have hu3 : (q ++ [v])[i]? = some u := by rw [List.getElem?_append_left hil]; exact hu2
            have q30 : q.length + 1 < 1073741824 := by omega
            simp [h0, h1, h4, h5, h7, h8, h36, h37, h38, hb8, f74, f75, g4, g5, q30]
            intro b9 hb9
            have hdel : H.del b7 = H := by
              funext x
              unfold AHeap.del
              split
              · next e => rw [e]; exact (by simpa [Fresh] using f7 : H b7 = none).symm
              · rfl
            rw [hdel] at hb9 ⊢
            simp at hb9
            simp [h0, h1, h4, h5, h7, h8, h36, h37, h38]
            refine turnA_to (((H.upd b4 (.cells (iarr 24 fun _ => 0))).upd b5 (.cells (iarr 24 (upf lv v (lv u + 1))))).upd b9 (.cells (natC (q ++ [v])))) ?_ ⟨⟨c + 1, q ++ [v], upf lv v (lv u + 1), b9⟩, by simp only; omega, by simp only; omega, hbd, hu3, ?_, ?_, ?_⟩
            · have e : natC (q ++ [v]) = natC q ++ [.int .i64 (v : Int)] := by simp [natC]
              rw [e]
              refine Drop.both (Drop.new (Drop.refl _) ?_)
              simp [hb8]
            · intro k' hk3 hl'
              simp only [htake, List.mem_append, List.mem_singleton] at hk3
              simp only [upf]
              split
              · have := hlo; omega
              · rename_i hne
                rcases hk3 with h | h
                · exact hk k' h hl'
                · rw [h, ← hv] at hne; exact absurd rfl hne
            · simp [hb9, hb8]
            · simp [h0, h1, h4, h5, h7, h8, h36, h37, h38, wc, hV, natC]
          · simp [h0, h1, h4, h5, h7, h8, h36, h37, h38, m7, m5, m4, f74, f75, g4, g5, hb5, dW, k400, k400I, dr_left, gt_left, iarr_get, hl, hn, hd24, hd24I, iarr_dr]
            refine turnA_self ⟨⟨c + 1, q, lv, b7⟩, by simp only; omega, by simp only; omega, hB2, hu2, ?_, by simp [f7, f74, f75], by simp [h0, h1, h4, h5, h7, h8, h36, h37, h38, wc, hV]⟩
            intro k' hk3 hl'
            simp only [htake, List.mem_append, List.mem_singleton] at hk3
            rcases hk3 with h | h
            · exact hk k' h hl'
            · rw [h, ← hv]; simp only; omega
        · simp [h0, h1, h4, h5, h7, h8, h36, h37, h38, m7, m5, m4, f74, f75, g4, g5, hb5, dW, k400, k400I, dr_left, gt_left, iarr_get, hl]
          refine turnA_self ⟨⟨c + 1, q, lv, b7⟩, by simp only; omega, by simp only; omega, hB2, hu2, ?_, by simp [f7, f74, f75], by simp [h0, h1, h4, h5, h7, h8, h36, h37, h38, wc, hV]⟩
          intro k' hk3 hl'
          simp only [htake, List.mem_append, List.mem_singleton] at hk3
          rcases hk3 with h | h
          · exact hk k' h hl'
          · rw [h] at hl'; exact absurd hl' hl
      · obtain rfl : c = R.length := by omega
        rw [List.take_length] at hk
        have wi : IntKind.i64.wrap ((i : Int) + 1) = (i : Int) + 1 := wrap_i64 (by omega) (by omega)
        have hbn := hB2.next hu2 fun k h1 h2 h3 => hk k (by rw [hR]; exact mem_rowOf.2 ⟨h1, h2⟩) h3
        simp [h0, h1, h4, h5, h7, h8, h36, h37, h38]
        exact turnA_self ⟨⟨i + 1, q, lv, b7⟩, by simp only; omega, by simp only; omega, hbn, by simp [f7, f74, f75], by simp [h0, h1, h4, h5, h7, h8, h36, h37, h38, wi]⟩
    · have hil : i = q.length := by omega
      have hLv := hB.fin (by omega)
      have hl24 : ∀ p, lv p < 24 ∧ (0 ≤ lv p → p < S.P) := fun p => ⟨by have := hB.small p; omega, fun h => hB.lt p ((hB.mem p).1 h)⟩
      simp [h0, h1, h4, h5, h7, h8, hil, f74, f75, g4, g5, hb5, m4, m5, m7]
      refine finA_same H (Drop.new (Drop.new (Drop.new (Drop.refl _) hb4) ?_) ?_) ⟨rfl, lv, ?_, hLv, hl24⟩
      · exact hb5.2.2
      · exact f7
      · rw [List.take_of_length_le (by simp), List.take_of_length_le (by simp)]
end Go.Proofs

end
