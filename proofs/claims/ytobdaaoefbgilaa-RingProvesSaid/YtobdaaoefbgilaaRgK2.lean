/-
  Ring: the reference's Check and IsRank; lists looked through.
-/
import Derived.Test.YtobdaaoefbgilaaRgK1
set_option linter.unusedSimpArgs false
set_option linter.unusedVariables false
set_option linter.unusedSectionVars false
namespace Go.Proofs
open Go Go.AH
set_option maxRecDepth 10000
set_option maxHeartbeats 4000000

theorem r_Check (r : Rul) (hr : r.ok) : Pure Try.prog 44 [r.av] (.int .i64 0) := by
  refine pure_of (acalls_of Try.func44 rfl Try.call44 (by kernel_rfl) (by show _ ≤ (74 : Nat); simp) ?_)
  have q1 := hr.m2; have q2 := hr.m6; have q3 := hr.c2; have q4 := hr.c6; have q5 := hr.sz
  have cs := r_Size r.m r.c q1 q2 q3 q4 q5
  have hp := pw_pos (c := r.c) (by omega) r.m
  have hp0 : ¬ pw r.c r.m = 0 := by omega
  have hnl := hr.nl
  simp only [Rul.av]
  simp
  intro b1 hb1
  simp
  refine cs.use ?_
  simp [hp0, rowsA, hnl]
  obtain ⟨cc, hcc⟩ : ∃ cc, cc = r.c * r.c := ⟨_, rfl⟩
  obtain ⟨ccc, hccc⟩ : ∃ ccc, ccc = cc * r.c := ⟨_, rfl⟩
  have b36 : cc ≤ 6 * 6 := by rw [hcc]; exact Nat.mul_le_mul q4 q4
  have b216 : ccc ≤ 36 * 6 := by rw [hccc]; exact Nat.mul_le_mul b36 q4
  have y1 : IntKind.i64.wrap ((r.c : Int) * (r.c : Int)) = (cc : Int) := by rw [← Int.natCast_mul, ← hcc]; exact wrap_i64 (by omega) (by omega)
  have y2 : IntKind.i64.wrap ((cc : Int) * (r.c : Int)) = (ccc : Int) := by rw [← Int.natCast_mul, ← hccc]; exact wrap_i64 (by omega) (by omega)
  have hc0 : ¬ r.c = 0 := by omega
  refine awp_loop_g (γ := Nat) (fun i t h => (i ≤ r.m) ∧ t 1 = .ptr b1 0 ∧ t 3 = .int .i64 r.c ∧ t 4 = .int .i64 i ∧ h = AHeap.empty.upd b1 (.cells [.int .i64 r.m, .int .i64 r.c, .sl r.m (r.next.map intsA)])) (fun i => r.m - i) (0) (turnA_self (by simp)) ?_
  rintro i t h ⟨hi, h1, h3, h4, rfl⟩
  by_cases hlt : i < r.m
  · have hwi : IntKind.i64.wrap ((i : Int) + 1) = (i : Int) + 1 := wrap_i64 (by omega) (by omega)
    have hin : i < r.next.length := by omega
    have hrl : r.next[i].length = ccc := by rw [hr.rl _ (List.getElem_mem hin), hccc, hcc]
    obtain ⟨row, hrow⟩ : ∃ row, row = r.next[i] := ⟨_, rfl⟩
    have hrm : row ∈ r.next := by rw [hrow]; exact List.getElem_mem hin
    rw [← hrow] at hrl
    have hrow' : r.next[i]'hin = row := hrow.symm
    have hne : ∀ k (hk : k < row.length), ¬ row[k] = ((k / r.c % r.c : Nat) : Int) := fun k hk => by
      have := hr.ne i k
      rw [show r.next.getD i [] = row from by simp [hin, hrow], show row.getD k (-1) = row[k] from by simp [hk]] at this
      exact this
    simp [h1, h3, h4, hlt, hnl, intsA, hrow', y1, y2, hrl]
    refine awp_loop_g (γ := Nat) (fun k t h => (k ≤ ccc) ∧ t 1 = .ptr b1 0 ∧ t 3 = .int .i64 r.c ∧ t 4 = .int .i64 i ∧ t 5 = .int .i64 k ∧ h = AHeap.empty.upd b1 (.cells [.int .i64 r.m, .int .i64 r.c, .sl r.m (r.next.map intsA)])) (fun k => ccc - k) (0) (turnA_self (by simp [h1, h3, h4])) ?_
    rintro k t h ⟨hk, h1, h3, h4, h5, rfl⟩
    by_cases hltk : k < ccc
    · have hwk : IntKind.i64.wrap ((k : Int) + 1) = (k : Int) + 1 := wrap_i64 (by omega) (by omega)
      have hkr : k < row.length := by omega
      have x1 := hr.lo _ hrm _ (List.getElem_mem hkr)
      have x2 := hr.hi _ hrm _ (List.getElem_mem hkr)
      have x3 := hne k hkr
      obtain ⟨x, hx⟩ : ∃ x, x = row[k] := ⟨_, rfl⟩
      have hx' : row[k]'hkr = x := hx.symm
      rw [← hx] at x1 x2 x3
      have n1 : ¬ x < -1 := by omega
      have n2 : ¬ (r.c : Int) ≤ x := by omega
      have hdl : k / r.c ≤ k := Nat.div_le_self _ _
      obtain ⟨d, hd⟩ : ∃ d, d = k / r.c := ⟨_, rfl⟩
      rw [← hd] at hdl x3
      have v1 : (k : Int).tdiv (r.c : Int) = (d : Int) := by rw [Int.tdiv_eq_ediv_of_nonneg (by omega), hd]; rfl
      have v2 : IntKind.i64.wrap (d : Int) = d := wrap_i64 (by omega) (by omega)
      obtain ⟨e, he⟩ : ∃ e, e = d % r.c := ⟨_, rfl⟩
      rw [← he] at x3
      have v3 : (d : Int).tmod (r.c : Int) = (e : Int) := by rw [Int.tmod_eq_emod_of_nonneg (by omega), he]; rfl
      simp [h1, h3, h4, h5, hlt, hnl, intsA, hrow', y1, y2, hltk, hrl, hx', n1, n2, hc0, v1, v2, v3, x3]
      exact turnA_self ⟨k + 1, by omega, by omega, by simp [h1, h3, h4, h5, hwk]⟩
    · obtain rfl : k = ccc := by omega
      simp [h1, h3, h4, h5, y1, y2]
      exact turnA_self ⟨i + 1, by omega, by omega, by simp [h1, h3, h4, h5, hwi]⟩
  · obtain rfl : i = r.m := by omega
    simp [h1, h3, h4]
    exact finA_drop rfl

/-- Is a number in a list? -/
def hasF (l : List Int) (x : Int) : Bool := l.any fun y => decide (y = x)
theorem lenA_list {h : AHeap} (l : List Int) : lenA Try.prog h 25 (listI l) = some (.int .i64 (l.length : Int)) := by
  unfold listI
  split
  · next e => subst e; simp
  · simp [intsA]
theorem any_take_succ {p : Int → Bool} {l : List Int} {i : Nat} (hi : i < l.length) : (l.take (i + 1)).any p = ((l.take i).any p || p l[i]) := by
  rw [List.take_succ_eq_append_getElem hi, List.any_append]; simp
theorem any_of_get {p : Int → Bool} {l : List Int} {i : Nat} (hi : i < l.length) (h : p l[i] = true) : l.any p = true := List.any_eq_true.2 ⟨_, List.getElem_mem hi, h⟩
theorem lenA_ints {h : AHeap} (l : List Int) : lenA Try.prog h 25 (intsA l) = some (.int .i64 (l.length : Int)) := by simp [intsA]
theorem r_hasV (l : List Int) (hl : l.length ≤ 1000000) (x : Int) (v : AV) (hv : v = listI l ∨ v = intsA l) : Pure Try.prog 70 [v, .int .i64 x] (.bool (hasF l x)) := by
  refine pure_of (acalls_of Try.func70 rfl Try.call70 (by kernel_rfl) (by show _ ≤ (18 : Nat); simp) ?_)
  have hlv : ∀ h, lenA Try.prog h 25 v = some (.int .i64 (l.length : Int)) := by
    intro h
    rcases hv with rfl | rfl
    · exact lenA_list l
    · exact lenA_ints l
  have hfit : v.fit = true := by rcases hv with rfl | rfl <;> simp
  have hone : v.one = true := by rcases hv with rfl | rfl <;> simp
  simp
  refine awp_loop_g (γ := Nat) (fun i t h => (i ≤ l.length ∧ hasF (l.take i) x = false) ∧ t 0 = v ∧ t 1 = .int .i64 x ∧ t 5 = .int .i64 i) (fun i => l.length - i) (0) (turnA_self (by simp [hasF])) ?_
  rintro i t h ⟨hi, h0, h1, h5⟩
  obtain ⟨hi, hf⟩ := hi
  by_cases hlt : i < l.length
  · have hwi : IntKind.i64.wrap ((i : Int) + 1) = (i : Int) + 1 := wrap_i64 (by omega) (by omega)
    have hne : ¬ l = [] := fun e => by rw [e] at hlt; simp at hlt
    obtain rfl : v = .sl l.length (l.map (.int .i64)) := by
      rcases hv with rfl | rfl
      · rw [listI_ne hne]; rfl
      · rfl
    simp [h0, h1, h5, hlt]
    refine condA_dec (fun e => ?_) fun e => ?_
    · simp [h0, h1, h5]
      exact finA_self (by rw [show hasF l x = true from any_of_get hlt (by simpa using e)])
    · simp [h0, h1, h5]
      exact turnA_self ⟨i + 1, by omega, ⟨by omega, by unfold hasF at hf ⊢; rw [any_take_succ hlt, hf]; simpa using e⟩, by simp [h0, h1, h5, hwi]⟩
  · have hie : i = l.length := by omega
    simp [h0, h1, h5, -lenA, hlv, hlt]
    rw [hie, List.take_length] at hf
    exact finA_self (by rw [show hasF l x = false from hf])
theorem r_has (l : List Int) (hl : l.length ≤ 1000000) (x : Int) : Pure Try.prog 70 [listI l, .int .i64 x] (.bool (hasF l x)) := r_hasV l hl x _ (.inl rfl)
theorem w_Index (l : List Int) (hl : l.length ≤ 1000000) (x : Int) : Pure Try.prog 79 [listI l, .int .i64 x] (.int .i64 (idxI l fun y => decide (y = x))) := by
  refine pure_of (acalls_of Try.func79 rfl Try.call79 (by kernel_rfl) (by show _ ≤ (19 : Nat); simp) ?_)
  simp [-lenA, lenA_list]
  refine awp_loop_g (γ := Nat) (fun i t h => (i ≤ l.length ∧ hasF (l.take i) x = false) ∧ t 0 = listI l ∧ t 1 = .int .i64 x ∧ t 7 = .int .i64 l.length ∧ t 8 = .int .i64 i) (fun i => l.length - i) (0) (turnA_self (by simp [hasF])) ?_
  rintro i t h ⟨hi, h0, h1, h7, h8⟩
  obtain ⟨hi, hf⟩ := hi
  by_cases hlt : i < l.length
  · have hwi : IntKind.i64.wrap ((i : Int) + 1) = (i : Int) + 1 := wrap_i64 (by omega) (by omega)
    have hne : ¬ l = [] := fun e => by rw [e] at hlt; simp at hlt
    rw [listI_ne hne, intsA] at *
    simp [h0, h1, h7, h8, hlt]
    refine condA_dec (fun e => ?_) fun e => ?_
    · simp [h0, h1, h7, h8]
      refine finA_self ?_
      have h1' : (l.any fun y => decide (y = x)) = true := any_of_get hlt (by simpa using e.symm)
      have h2 : (l.findIdx fun y => decide (y = x)) = i := by
        rw [List.findIdx_eq hlt]
        refine ⟨by simpa using e.symm, fun j hj => ?_⟩
        unfold hasF at hf
        rw [List.any_eq_false] at hf
        have := hf (l[j]) (List.mem_take_iff_getElem.2 ⟨j, by omega, rfl⟩)
        simpa using this
      rw [idxI, if_pos h1', h2]
    · simp [h0, h1, h7, h8]
      exact turnA_self ⟨i + 1, by omega, ⟨by omega, by unfold hasF at hf ⊢; rw [any_take_succ hlt, hf]; simpa using fun q => e q.symm⟩, by simp [h0, h1, h7, h8, hwi]⟩
  · have hie : i = l.length := by omega
    simp [h0, h1, h7, h8, hlt]
    rw [hie, List.take_length] at hf
    unfold hasF at hf
    exact finA_self (by rw [idxI, if_neg (by rw [hf]; simp)])
theorem w_Contains (l : List Int) (hl : l.length ≤ 1000000) (x : Int) : Pure Try.prog 68 [listI l, .int .i64 x] (.bool (hasF l x)) := by
  refine pure_of (acalls_of Try.func68 rfl Try.call68 (by kernel_rfl) (by show _ ≤ (9 : Nat); simp) ?_)
  have c1 := w_Index l hl x
  simp
  refine c1.use ?_
  simp
  refine finA_self ?_
  congr 1
  unfold idxI hasF
  by_cases h : (l.any fun y => decide (y = x)) = true
  · rw [if_pos h, h]; simp
  · rw [if_neg h]; simp only [Bool.not_eq_true] at h; rw [h]; decide
theorem foldl_snoc {α : Type} : ∀ (L g : List α), L.foldl (fun g a => g ++ [a]) g = g ++ L
  | [], g => by simp
  | a :: L, g => by rw [List.foldl_cons, foldl_snoc L]; simp
theorem runIt_snocs {α : Type} : ∀ (L g : List α), runIt (fun g a => g ++ [a]) (fun _ => true) g L = g ++ L
  | [], g => by simp [runIt]
  | a :: L, g => by rw [runIt, if_pos rfl, runIt_snocs L]; simp
theorem drop_updO {H' H : AHeap} {o : Option Nat} {cs : List AV} (d : Drop H' H) (ho : FreshO H o) : Drop (H'.updO o cs) H := by
  cases o with
  | none => exact d
  | some b => exact Drop.new d ho
theorem w_AppendSeq {S : AHeap → Prop} (hSu : ∀ h l c, S h → h l = none → S (h.upd l c)) {f : FuncId} {first caps : List AV} {L : List Nat} (hL : L.length ≤ 1000000) (it : IterH Try.prog S (.fn (.func f) first caps) (fun t : Nat => [.int .i64 t]) L true)
    (hone : (AV.fn (.func f) first caps).one = true) (H : AHeap) (hH : S H) : ACalls Try.prog 80 [.nilsl, .fn (.func f) first caps] H fun a h => a = listA L ∧ h = H := by
  refine acalls_of Try.func80 rfl Try.call80 (by kernel_rfl) (by show _ ≤ (13 : Nat); simp) ?_
  simp
  intro b2 hb2
  simp
  refine awp_iterH hSu (S := S) (by simp) it (fun (g : List Nat) h => ∃ o : Option Nat, (o = none ↔ g = []) ∧ ¬ o = some b2 ∧ FreshO H o ∧ h = (H.upd b2 (.cells [ownV o g.length 1])).updO o (g.map fun x : Nat => AV.int .i64 (x : Int))) ?_
    (fun g t => g ++ [t]) (fun _ => none) [] rfl ⟨none, by simp, by simp, by simp, by simp⟩ (by kernel_rfl) (by kernel_rfl) (by simp) (by intro a _; rfl) (.inl rfl) ?_ ?_ ?_
  · rintro g h ⟨o, _, ho2, ho3, rfl⟩
    have s1 : S (H.upd b2 (.cells [ownV o g.length 1])) := hSu _ _ _ hH hb2
    cases o with
    | none => exact s1
    | some b =>
      refine hSu _ _ _ s1 ?_
      have : ¬ b = b2 := fun e => ho2 (by rw [e])
      rw [AHeap.upd_ne this]
      exact ho3
  · rintro l i g a h ha hg0 _ ⟨o, ho1, ho2, ho3, rfl⟩
    rw [foldl_snoc, List.nil_append] at hg0
    have hgl : g.length ≤ 1000000 := by rw [hg0]; simp; omega
    simp [putsA, ho2]
    intro b1 hb1
    obtain ⟨x1, x2, x3, x4⟩ : ¬ o = some b1 ∧ ¬ b1 = b2 ∧ ¬ b2 = b1 ∧ Fresh H b1 := by simpa using hb1
    simp [x1, x2, x3, ho2]
    refine appendA_updO (by omega) (by omega) (by simpa using ho1.1) (by simp) (by simp) (by simp [x1, x2, x3, x4, ho2, ho3]) fun b' hb' => ?_
    obtain ⟨y1, y2, y3, y4, y5⟩ : ¬ b' = b1 ∧ ¬ b1 = b' ∧ ¬ b' = b2 ∧ ¬ b2 = b' ∧ Fresh H b' := by simpa [x1, x2, x3, ho2] using hb'
    simp [x1, x2, x3, y1, y2, y3, y4]
    refine ⟨(H.upd b2 (.cells [.osl b' 0 (g.length + 1) 1])).updO (some b') ((g ++ [a]).map fun x : Nat => AV.int .i64 (x : Int)), ?_, some b', by simp, by simp [y3], y5, by simp⟩
    simp
    exact Drop.both (Drop.new (Drop.refl _) (by simp [x2, x3, x4]))
  · intro g e he; cases he
  · rintro h ⟨o, ho1, ho2, ho3, rfl⟩
    have hgo : (fun g : List Nat => ((none : Option Exit)).isNone) = fun _ => true := rfl
    rw [hgo] at ho1 ⊢
    rw [runIt_snocs, List.nil_append] at ho1 ⊢
    simp [ho2]
    refine finA_to 1 H (drop_updO (Drop.new (Drop.refl _) hb2) ho3) ⟨?_, rfl⟩
    exact frz_own rfl ho1 ho3
end Go.Proofs
