/-
  Ring: the law's tame: a protocol made of any.
-/
import Derived.Test.YtobdaaoefbgilaaRgT0
set_option linter.unusedSimpArgs false
set_option linter.unusedVariables false
set_option linter.unusedSectionVars false
namespace Go.Proofs
open Go Go.AH
set_option maxRecDepth 10000
set_option maxHeartbeats 4000000

/-! ### What tame makes -/
def uY (c : Nat) (x : Int) : Nat := (IntKind.u64.wrap x / 7 % (c + 1 : Nat)).toNat
def tY (c : Nat) (x : Int) : Int := (uY c x : Int) - 1
theorem uY_le (c : Nat) (x : Int) : uY c x ≤ c := by
  have h1 := Int.emod_lt_of_pos (IntKind.u64.wrap x / 7) (show (0 : Int) < (c + 1 : Nat) by omega)
  have h2 := Int.emod_nonneg (IntKind.u64.wrap x / 7) (show ((c + 1 : Nat) : Int) ≠ 0 by omega)
  unfold uY; omega
def tRow (c : Nat) (kind : Int) (src row : List Int) : Nat → List Int
  | 0 => row
  | k + 1 => if 0 < uM kind 3 ∧ 0 < uM (src.getD k 0) 7 then tRow c kind src row k else if tY c (src.getD k 0) = ((k / c % c : Nat) : Int) then tRow c kind src row k else (tRow c kind src row k).set k (tY c (src.getD k 0))
def tRows (c : Nat) (kind : Int) (next rows : List (List Int)) : Nat → List (List Int)
  | 0 => rows
  | i + 1 => (tRows c kind next rows i).set i (tRow c kind (next.getD i []) (rows.getD i []) (min (next.getD i []).length (c * c * c)))
def baseF (mach kind : Int) : Rul := match uM mach 7 with
  | 0 => dijR 2 2
  | 1 => if uM kind 4 = 0 then fourR 3 else dijR 3 2
  | 2 => dijR 2 3
  | 3 => dijR 4 2
  | 4 => if uM kind 4 = 0 then fourR 3 else dijR 3 3
  | 5 => dijR 2 4
  | _ => dijR 5 2
def tameF (mach : Int) (next : List (List Int)) (kind : Int) : Rul :=
  let R := baseF mach kind
  ⟨R.m, R.c, tRows R.c kind next R.next (min next.length R.m)⟩

def GoodRow (c : Nat) (row : List Int) : Prop := row.length = c * c * c ∧ ∀ k (h : k < row.length), -1 ≤ row[k] ∧ row[k] < c ∧ row[k] ≠ ((k / c % c : Nat) : Int)
theorem tRow_good {c : Nat} {kind : Int} {src row : List Int} (h : GoodRow c row) : ∀ k, GoodRow c (tRow c kind src row k)
  | 0 => h
  | k + 1 => by
    have ih := tRow_good (kind := kind) (src := src) h k
    unfold tRow
    split
    · exact ih
    · split
      · exact ih
      · next _ hne =>
        refine ⟨by simpa using ih.1, fun j hj => ?_⟩
        rw [List.getElem_set]
        have hj' : j < (tRow c kind src row k).length := by simpa using hj
        split
        · next e =>
          subst e
          have := uY_le c (src.getD k 0)
          unfold tY at hne ⊢
          exact ⟨by omega, by omega, hne⟩
        · exact ih.2 j hj'
theorem tRow_len {c : Nat} {kind : Int} {src row : List Int} : ∀ k, (tRow c kind src row k).length = row.length
  | 0 => rfl
  | k + 1 => by
    unfold tRow
    split
    · exact tRow_len k
    · split
      · exact tRow_len k
      · rw [List.length_set, tRow_len k]
theorem tRows_len {c : Nat} {kind : Int} {next rows : List (List Int)} : ∀ i, (tRows c kind next rows i).length = rows.length
  | 0 => rfl
  | i + 1 => by rw [tRows, List.length_set, tRows_len i]
theorem tRows_get {c : Nat} {kind : Int} {next rows : List (List Int)} : ∀ (i j : Nat) (h : j < (tRows c kind next rows i).length) (h2 : j < rows.length), i ≤ j → (tRows c kind next rows i)[j] = rows[j]
  | 0, j, h, h2, _ => rfl
  | i + 1, j, h, h2, hij => by
    simp only [tRows]
    rw [List.getElem_set_ne (by omega)]
    exact tRows_get i j _ h2 (by omega)
theorem tRows_good {c : Nat} {kind : Int} {next rows : List (List Int)} (h : ∀ row ∈ rows, GoodRow c row) : ∀ i, ∀ row ∈ tRows c kind next rows i, GoodRow c row
  | 0 => h
  | i + 1 => by
    intro row hr
    by_cases hi : i < rows.length
    · rw [tRows] at hr
      rcases List.mem_or_eq_of_mem_set hr with q | rfl
      · exact tRows_good h i row q
      · refine tRow_good ?_ _
        rw [show rows.getD i [] = rows[i] from by simp [hi]]
        exact h _ (List.getElem_mem hi)
    · rw [tRows, List.set_eq_of_length_le (by rw [tRows_len]; omega)] at hr
      exact tRows_good h i row hr
def goodB (c : Nat) (row : List Int) : Bool := decide (row.length = c * c * c) && (List.range row.length).all fun k => decide (-1 ≤ row.getD k 0) && decide (row.getD k 0 < c) && !decide (row.getD k 0 = ((k / c % c : Nat) : Int))
theorem goodB_spec {c : Nat} {row : List Int} (h : goodB c row = true) : GoodRow c row := by
  simp only [goodB, Bool.and_eq_true, decide_eq_true_eq] at h
  refine ⟨h.1, fun k hk => ?_⟩
  have := List.all_eq_true.1 h.2 k (List.mem_range.2 hk)
  rw [show row.getD k 0 = row[k] from by simp [hk]] at this
  simp only [Bool.and_eq_true, decide_eq_true_eq, Bool.not_eq_true', decide_eq_false_iff_not] at this
  exact ⟨this.1.1, this.1.2, this.2⟩
structure Base (R : Rul) : Prop where
  m2 : 2 ≤ R.m
  m6 : R.m ≤ 5
  c2 : 2 ≤ R.c
  c6 : R.c ≤ 4
  sz : R.size ≤ 64
  nl : R.next.length = R.m
  rl : ∀ row ∈ R.next, GoodRow R.c row
theorem base_of {R : Rul} (h : (decide (2 ≤ R.m) && decide (R.m ≤ 5) && decide (2 ≤ R.c) && decide (R.c ≤ 4) && decide (R.c ^ R.m ≤ 64) && decide (R.next.length = R.m) && R.next.all (goodB R.c)) = true) : Base R := by
  simp only [Bool.and_eq_true, decide_eq_true_eq] at h
  obtain ⟨⟨⟨⟨⟨⟨h1, h2⟩, h3⟩, h4⟩, h5⟩, h6⟩, h7⟩ := h
  exact ⟨h1, h2, h3, h4, h5, h6, fun row hr => goodB_spec (List.all_eq_true.1 h7 row hr)⟩
theorem base22 : Base (dijR 2 2) := base_of (by kernel_rfl)
theorem base32 : Base (dijR 3 2) := base_of (by kernel_rfl)
theorem base23 : Base (dijR 2 3) := base_of (by kernel_rfl)
theorem base42 : Base (dijR 4 2) := base_of (by kernel_rfl)
theorem base33 : Base (dijR 3 3) := base_of (by kernel_rfl)
theorem base24 : Base (dijR 2 4) := base_of (by kernel_rfl)
theorem base52 : Base (dijR 5 2) := base_of (by kernel_rfl)
theorem baseF3 : Base (fourR 3) := base_of (by kernel_rfl)
theorem baseF_ok (mach kind : Int) : Base (baseF mach kind) := by
  unfold baseF
  split
  · exact base22
  · split
    · exact baseF3
    · exact base32
  · exact base23
  · exact base42
  · split
    · exact baseF3
    · exact base33
  · exact base24
  · exact base52
theorem ok_of {R : Rul} (B : Base R) {rows : List (List Int)} (hl : rows.length = R.m) (hg : ∀ row ∈ rows, GoodRow R.c row) : (Rul.mk R.m R.c rows).ok := by
  refine ⟨B.m2, by have := B.m6; simp only; omega, B.c2, by have := B.c6; simp only; omega, by have := B.sz; unfold Rul.size at this ⊢; simp only; omega, hl, fun row hr => (hg row hr).1, fun row hr x hx => ?_, fun row hr x hx => ?_, fun i k => ?_⟩
  · obtain ⟨k, hk, rfl⟩ := List.mem_iff_getElem.1 hx
    exact ((hg row hr).2 k hk).1
  · obtain ⟨k, hk, rfl⟩ := List.mem_iff_getElem.1 hx
    exact ((hg row hr).2 k hk).2.1
  · simp only
    by_cases hi : i < rows.length
    · rw [show rows.getD i [] = rows[i] from by simp [hi]]
      by_cases hk : k < rows[i].length
      · rw [show rows[i].getD k (-1) = rows[i][k] from by simp [hk]]
        exact ((hg _ (List.getElem_mem hi)).2 k hk).2.2
      · rw [show rows[i].getD k (-1) = -1 from by rw [List.getD_eq_getElem?_getD, List.getElem?_eq_none (by omega)]; rfl]
        omega
    · rw [show rows.getD i [] = [] from by rw [List.getD_eq_getElem?_getD, List.getElem?_eq_none (by omega)]; rfl]
      rw [show ([] : List Int).getD k (-1) = -1 from by simp]
      have := Int.natCast_nonneg (k / R.c % R.c)
      omega
theorem tame_ok (mach : Int) (next : List (List Int)) (kind : Int) : (tameF mach next kind).ok := by
  have B := baseF_ok mach kind
  exact ok_of B (by rw [tRows_len, B.nl]) (tRows_good B.rl _)

/-! ### Rows on a heap -/
theorem own_frame {f : FuncId} {args : List AV} {R : Nat → AV} {rows : List (List Int)} (c : ACalls Try.prog f args AHeap.empty fun r H => ∃ bN bs, r = R bN ∧ RowsAt H bN bs rows) (h : AHeap) :
    ACalls Try.prog f args h fun r H => ∃ bN bs, r = R bN ∧ RowsAt H bN bs rows ∧ (∀ b, h b ≠ none → H b = h b) ∧ ∀ b ∈ bN :: bs, h b = none := by
  have c2 := ACalls.frame c (h2 := h) Disj.empty
  rw [AHeap.empty_un] at c2
  refine ACalls.mono c2 ?_
  rintro r H' ⟨H, rfl, D, bN, bs, rfl, hR⟩
  have un : ∀ b c, H b = some c → (H.un h) b = some c := fun b c q => AHeap.un_some q
  refine ⟨bN, bs, rfl, ⟨hR.len, hR.nd, hR.nN, un _ _ hR.top, fun i h1 h2 => un _ _ (hR.row i h1 h2)⟩, fun b hb => ?_, fun b hb => ?_⟩
  · rw [AHeap.un_at]
    rcases D b with q | q
    · rw [q]
    · exact absurd q hb
  · rcases D b with q | q
    · rcases List.mem_cons.1 hb with rfl | hb
      · rw [hR.top] at q; cases q
      · obtain ⟨i, hi, rfl⟩ := List.mem_iff_getElem.1 hb
        rw [hR.row i hi (by rw [← hR.len]; exact hi)] at q; cases q
    · exact q
theorem cellsAt_of {H : AHeap} {b : Nat} {cs : List AV} (e : H b = some (.cells cs)) (off : Nat) : cellsAt H b off = some (cs.drop off) := by simp [cellsAt, e]
theorem of_cellsAt {H : AHeap} {b : Nat} {cs : List AV} (e : cellsAt H b 0 = some cs) : H b = some (.cells cs) := by
  unfold cellsAt at e
  split at e
  · next cs' h => simp at e; subst e; exact h
  · cases e

/-- The law's blocks: the protocol that came in, the result, the one that is made. -/
structure TF (H : AHeap) (b2 b4 b7 bN : Nat) (bs : List Nat) (inn out : List AV) (m c : Nat) (rows : List (List Int)) : Prop where
  e2 : H b2 = some (.cells inn)
  e4 : H b4 = some (.cells out)
  e7 : H b7 = some (.cells [.int .i64 m, .int .i64 c, .osl bN 0 m 1])
  R : RowsAt H bN bs rows
  d2 : b2 ∉ bs
  d4 : b4 ∉ bs
  d7 : b7 ∉ bs
  n4 : b4 ≠ bN
theorem nodup_inj {l : List Nat} (h : l.Nodup) {i j : Nat} (hi : i < l.length) (hj : j < l.length) (e : l[i] = l[j]) : i = j := by
  rcases Nat.lt_trichotomy i j with q | q | q
  · exact absurd e (List.pairwise_iff_getElem.1 h i j hi hj q)
  · exact q
  · exact absurd e.symm (List.pairwise_iff_getElem.1 h j i hj hi q)
theorem TF.set {H : AHeap} {b2 b4 b7 bN : Nat} {bs : List Nat} {inn out : List AV} {m c : Nat} {rows : List (List Int)} (F : TF H b2 b4 b7 bN bs inn out m c rows) {i : Nat} (h1 : i < bs.length) (h2 : i < rows.length) {row : List Int} (hr : row.length = rows[i].length) :
    TF (H.upd bs[i] (.cells (row.map (.int .i64)))) b2 b4 b7 bN bs inn out m c (rows.set i row) := by
  have ne : ∀ {b : Nat}, b ∉ bs → b ≠ bs[i] := fun {b} hb q => hb (q ▸ List.getElem_mem h1)
  refine ⟨by rw [AHeap.upd_ne (ne F.d2)]; exact F.e2, by rw [AHeap.upd_ne (ne F.d4)]; exact F.e4, by rw [AHeap.upd_ne (ne F.d7)]; exact F.e7, ⟨by rw [F.R.len]; simp, F.R.nd, F.R.nN, ?_, fun j g1 g2 => ?_⟩, F.d2, F.d4, F.d7, F.n4⟩
  · rw [AHeap.upd_ne (ne F.R.nN), F.R.top]
    congr 2
    refine List.ext_getElem (by simp) fun j g1 g2 => ?_
    simp only [List.getElem_zipWith, List.getElem_set]
    split
    · next e => subst e; rw [hr]
    · rfl
  · simp only [List.getElem_set]
    split
    · next e => subst e; rw [AHeap.upd_same]
    · next e =>
      rw [AHeap.upd_ne fun q => e (nodup_inj F.R.nd _ _ q).symm]
      exact F.R.row j g1 _

theorem TF.fin {H : AHeap} {b2 b4 b7 bN : Nat} {bs : List Nat} {inn out cs : List AV} {m c : Nat} {rows : List (List Int)} (F : TF H b2 b4 b7 bN bs inn out m c rows) (hm : rows.length = m) {R : AV → AHeap → Prop} (q : R (.agg [.int .i64 m, .int .i64 c, rowsA rows]) AHeap.empty) :
    finA R (.agg [.int .i64 m, .int .i64 c, .osl bN 0 m 1]) (H.upd b4 (.cells cs)) := by
  refine finA_all 4 ?_
  have h := (F.R.upd (b := b4) (c := .cells cs) (fun e => F.n4 e.symm) F.d4).frz 0
  rw [hm] at h
  rw [frzF]
  simp only [List.map_cons, List.map_nil, h]
  rw [frz_bare (a := .int .i64 m) rfl, frz_bare (a := .int .i64 c) rfl]
  exact q

/-- A place in a loop and the heap. -/
structure TQ where
  i : Nat
  H : AHeap
end Go.Proofs
