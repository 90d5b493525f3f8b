/-
  Texts: RgT0 RgT RgU.
-/
import Derived.Test.YtobdaaoefbgilaaAhXw
import Derived.Test.YtobdaaoefbgilaaG2
set_option linter.unusedSimpArgs false
set_option linter.unusedVariables false
set_option linter.unusedSectionVars false
section
/-
  Ring: the protocols from which the law makes others, run by the evaluator.
-/
namespace Go.Proofs
open Go Go.AH
set_option maxRecDepth 100000

def dijT (c i k : Nat) : Int := if i = 0 ∧ k / c / c = k / c % c then ((k / c % c + 1) % c : Nat) else if 0 < i ∧ k / c / c ≠ k / c % c then (k / c / c : Nat) else -1
def dijR (m c : Nat) : Rul := ⟨m, c, (List.range m).map fun i => (List.range (c * c * c)).map (dijT c i)⟩
def hupF (m i x : Nat) : Nat := if i = m - 1 then 0 else if i = 0 then 1 else x % 2
def fourT (m i k : Nat) : Int :=
  let l := k / 16; let o := k / 4 % 4; let s := k % 4
  if i = 0 then (if s / 2 = o / 2 ∧ hupF m 1 s = 0 then (2 * (1 - (o / 2 : Nat)) + 1 : Int) else -1)
  else if i = m - 1 then (if l / 2 ≠ o / 2 then (2 * (l / 2) : Nat) else -1)
  else if l / 2 ≠ o / 2 then (2 * (l / 2) + 1 : Nat)
  else if hupF m i o = 1 ∧ s / 2 = o / 2 ∧ hupF m ((i + 1) % m) s = 0 then (2 * (o / 2) : Nat) else -1
def fourR (m : Nat) : Rul := ⟨m, 4, (List.range m).map fun i => (List.range 64).map (fourT m i)⟩

noncomputable def outR (p : AV × XH) : Option (Int × Int × List (List Int)) := match p.1 with
  | .tup [.agg [.int .i64 m, .int .i64 c, v], .bool true] => match ownRows p.2 v with
    | some (_, qs) => some (m, c, qs.map (·.2))
    | none => none
  | _ => none
theorem outR_ok {L : List Nat} (hL : ∀ f ∈ L, ∀ (args : Array Value) (w : World), (callFunc f args).run Try.prog w = .ok (.enter f args) w) {n : Nat} {f : FuncId} {args : List AV} {m c : Int} {rows : List (List Int)} (e : (xcallK Try.prog L n f args).bind outR = some (m, c, rows)) :
    ACalls Try.prog f args AHeap.empty fun r' H => ∃ bN bs, r' = .tup [.agg [.int .i64 m, .int .i64 c, .osl bN 0 rows.length 1], .bool true] ∧ RowsAt H bN bs rows := by
  obtain ⟨⟨r, h1⟩, e1, e2⟩ := Option.bind_eq_some_iff.1 e
  refine ACalls.mono (xcallK_ok (by kernel_rfl) hL e1) ?_
  rintro r' H ⟨ρ, R, rfl⟩
  unfold outR at e2
  simp only at e2
  split at e2
  · next m' c' v =>
    split at e2
    · next b qs hq =>
      cases e2
      obtain ⟨q1, q2⟩ := ownRows_spec R hq
      refine ⟨_, _, ?_, q2⟩
      simp only [ren, renL_eq, List.map_cons, List.map_nil, q1, List.length_map]
    · cases e2
  · cases e2
theorem refD_calls : ∀ f ∈ ([27, 31] : List Nat), ∀ (args : Array Value) (w : World), (callFunc f args).run Try.prog w = .ok (.enter f args) w := by
  intro f hf
  simp only [List.mem_cons, List.not_mem_nil, or_false] at hf
  rcases hf with rfl | rfl
  · exact Try.call27
  · exact Try.call31
theorem refF_calls : ∀ f ∈ ([46, 71, 81] : List Nat), ∀ (args : Array Value) (w : World), (callFunc f args).run Try.prog w = .ok (.enter f args) w := by
  intro f hf
  simp only [List.mem_cons, List.not_mem_nil, or_false] at hf
  rcases hf with rfl | rfl | rfl
  · exact Try.call46
  · exact Try.call71
  · exact Try.call81
theorem ev22 : (xcallK Try.prog [27, 31] 1000 31 [.int .i64 2, .int .i64 2]).bind outR = some (2, 2, (dijR 2 2).next) := by kernel_rfl
theorem ev32 : (xcallK Try.prog [27, 31] 1000 31 [.int .i64 3, .int .i64 2]).bind outR = some (3, 2, (dijR 3 2).next) := by kernel_rfl
theorem ev23 : (xcallK Try.prog [27, 31] 1000 31 [.int .i64 2, .int .i64 3]).bind outR = some (2, 3, (dijR 2 3).next) := by kernel_rfl
theorem ev42 : (xcallK Try.prog [27, 31] 1000 31 [.int .i64 4, .int .i64 2]).bind outR = some (4, 2, (dijR 4 2).next) := by kernel_rfl
theorem ev33 : (xcallK Try.prog [27, 31] 1000 31 [.int .i64 3, .int .i64 3]).bind outR = some (3, 3, (dijR 3 3).next) := by kernel_rfl
theorem ev24 : (xcallK Try.prog [27, 31] 1000 31 [.int .i64 2, .int .i64 4]).bind outR = some (2, 4, (dijR 2 4).next) := by kernel_rfl
theorem ev52 : (xcallK Try.prog [27, 31] 1000 31 [.int .i64 5, .int .i64 2]).bind outR = some (5, 2, (dijR 5 2).next) := by kernel_rfl
theorem evF3 : (xcallK Try.prog [46, 71, 81] 1000 46 [.int .i64 3]).bind outR = some (3, 4, (fourR 3).next) := by kernel_rfl
end Go.Proofs

end

section
/-
  Ring: the law's tame: a protocol made of any.
-/
namespace Go.Proofs
open Go Go.AH
set_option maxRecDepth 10000
set_option maxHeartbeats 4000000

/-! ### What tame makes -/
def uY (c : Nat) (x : Int) : Nat := (IntKind.u64.wrap x / 7 % (c + 1 : Nat)).toNat
def tY (c : Nat) (x : Int) : Int := (uY c x : Int) - 1
theorem uY_le (c : Nat) (x : Int) : uY c x ≤ c := by
  have h1 := Int.emod_lt_of_pos (IntKind.u64.wrap x / 7) (show (0 : Int) < (c + 1 : Nat) by omega)
  have h2 := Int.emod_nonneg (IntKind.u64.wrap x / 7) (show ((c + 1 : Nat) : Int) ≠ 0 by omega)
  unfold uY; omega
def tRow (c : Nat) (kind : Int) (src row : List Int) : Nat → List Int
  | 0 => row
  | k + 1 => if 0 < uM kind 3 ∧ 0 < uM (src.getD k 0) 7 then tRow c kind src row k else if tY c (src.getD k 0) = ((k / c % c : Nat) : Int) then tRow c kind src row k else (tRow c kind src row k).set k (tY c (src.getD k 0))
def tRows (c : Nat) (kind : Int) (next rows : List (List Int)) : Nat → List (List Int)
  | 0 => rows
  | i + 1 => (tRows c kind next rows i).set i (tRow c kind (next.getD i []) (rows.getD i []) (min (next.getD i []).length (c * c * c)))
def baseF (mach kind : Int) : Rul := match uM mach 7 with
  | 0 => dijR 2 2
  | 1 => if uM kind 4 = 0 then fourR 3 else dijR 3 2
  | 2 => dijR 2 3
  | 3 => dijR 4 2
  | 4 => if uM kind 4 = 0 then fourR 3 else dijR 3 3
  | 5 => dijR 2 4
  | _ => dijR 5 2
def tameF (mach : Int) (next : List (List Int)) (kind : Int) : Rul :=
  let R := baseF mach kind
  ⟨R.m, R.c, tRows R.c kind next R.next (min next.length R.m)⟩

def GoodRow (c : Nat) (row : List Int) : Prop := row.length = c * c * c ∧ ∀ k (h : k < row.length), -1 ≤ row[k] ∧ row[k] < c ∧ row[k] ≠ ((k / c % c : Nat) : Int)
theorem tRow_good {c : Nat} {kind : Int} {src row : List Int} (h : GoodRow c row) : ∀ k, GoodRow c (tRow c kind src row k)
  | 0 => h
  | k + 1 => by
    have ih := tRow_good (kind := kind) (src := src) h k
    unfold tRow
    split
    · exact ih
    · split
      · exact ih
      · next _ hne =>
        refine ⟨by simpa using ih.1, fun j hj => ?_⟩
        rw [List.getElem_set]
        have hj' : j < (tRow c kind src row k).length := by simpa using hj
        split
        · next e =>
          subst e
          have := uY_le c (src.getD k 0)
          unfold tY at hne ⊢
          exact ⟨by omega, by omega, hne⟩
        · exact ih.2 j hj'
theorem tRow_len {c : Nat} {kind : Int} {src row : List Int} : ∀ k, (tRow c kind src row k).length = row.length
  | 0 => rfl
  | k + 1 => by
    unfold tRow
    split
    · exact tRow_len k
    · split
      · exact tRow_len k
      · rw [List.length_set, tRow_len k]
theorem tRows_len {c : Nat} {kind : Int} {next rows : List (List Int)} : ∀ i, (tRows c kind next rows i).length = rows.length
  | 0 => rfl
  | i + 1 => by rw [tRows, List.length_set, tRows_len i]
theorem tRows_get {c : Nat} {kind : Int} {next rows : List (List Int)} : ∀ (i j : Nat) (h : j < (tRows c kind next rows i).length) (h2 : j < rows.length), i ≤ j → (tRows c kind next rows i)[j] = rows[j]
  | 0, j, h, h2, _ => rfl
  | i + 1, j, h, h2, hij => by
    simp only [tRows]
    rw [List.getElem_set_ne (by omega)]
    exact tRows_get i j _ h2 (by omega)
theorem tRows_good {c : Nat} {kind : Int} {next rows : List (List Int)} (h : ∀ row ∈ rows, GoodRow c row) : ∀ i, ∀ row ∈ tRows c kind next rows i, GoodRow c row
  | 0 => h
  | i + 1 => by
    intro row hr
    by_cases hi : i < rows.length
    · rw [tRows] at hr
      rcases List.mem_or_eq_of_mem_set hr with q | rfl
      · exact tRows_good h i row q
      · refine tRow_good ?_ _
        rw [show rows.getD i [] = rows[i] from by simp [hi]]
        exact h _ (List.getElem_mem hi)
    · rw [tRows, List.set_eq_of_length_le (by rw [tRows_len]; omega)] at hr
      exact tRows_good h i row hr
def goodB (c : Nat) (row : List Int) : Bool := decide (row.length = c * c * c) && (List.range row.length).all fun k => decide (-1 ≤ row.getD k 0) && decide (row.getD k 0 < c) && !decide (row.getD k 0 = ((k / c % c : Nat) : Int))
theorem goodB_spec {c : Nat} {row : List Int} (h : goodB c row = true) : GoodRow c row := by
  simp only [goodB, Bool.and_eq_true, decide_eq_true_eq] at h
  refine ⟨h.1, fun k hk => ?_⟩
  have := List.all_eq_true.1 h.2 k (List.mem_range.2 hk)
  rw [show row.getD k 0 = row[k] from by simp [hk]] at this
  simp only [Bool.and_eq_true, decide_eq_true_eq, Bool.not_eq_true', decide_eq_false_iff_not] at this
  exact ⟨this.1.1, this.1.2, this.2⟩
structure Base (R : Rul) : Prop where
  m2 : 2 ≤ R.m
  m6 : R.m ≤ 5
  c2 : 2 ≤ R.c
  c6 : R.c ≤ 4
  sz : R.size ≤ 64
  nl : R.next.length = R.m
  rl : ∀ row ∈ R.next, GoodRow R.c row
theorem base_of {R : Rul} (h : (decide (2 ≤ R.m) && decide (R.m ≤ 5) && decide (2 ≤ R.c) && decide (R.c ≤ 4) && decide (R.c ^ R.m ≤ 64) && decide (R.next.length = R.m) && R.next.all (goodB R.c)) = true) : Base R := by
  simp only [Bool.and_eq_true, decide_eq_true_eq] at h
  obtain ⟨⟨⟨⟨⟨⟨h1, h2⟩, h3⟩, h4⟩, h5⟩, h6⟩, h7⟩ := h
  exact ⟨h1, h2, h3, h4, h5, h6, fun row hr => goodB_spec (List.all_eq_true.1 h7 row hr)⟩
theorem base22 : Base (dijR 2 2) := base_of (by kernel_rfl)
theorem base32 : Base (dijR 3 2) := base_of (by kernel_rfl)
theorem base23 : Base (dijR 2 3) := base_of (by kernel_rfl)
theorem base42 : Base (dijR 4 2) := base_of (by kernel_rfl)
theorem base33 : Base (dijR 3 3) := base_of (by kernel_rfl)
theorem base24 : Base (dijR 2 4) := base_of (by kernel_rfl)
theorem base52 : Base (dijR 5 2) := base_of (by kernel_rfl)
theorem baseF3 : Base (fourR 3) := base_of (by kernel_rfl)
theorem baseF_ok (mach kind : Int) : Base (baseF mach kind) := by
  unfold baseF
  split
  · exact base22
  · split
    · exact baseF3
    · exact base32
  · exact base23
  · exact base42
  · split
    · exact baseF3
    · exact base33
  · exact base24
  · exact base52
theorem ok_of {R : Rul} (B : Base R) {rows : List (List Int)} (hl : rows.length = R.m) (hg : ∀ row ∈ rows, GoodRow R.c row) : (Rul.mk R.m R.c rows).ok := by
  refine ⟨B.m2, by have := B.m6; simp only; omega, B.c2, by have := B.c6; simp only; omega, by have := B.sz; unfold Rul.size at this ⊢; simp only; omega, hl, fun row hr => (hg row hr).1, fun row hr x hx => ?_, fun row hr x hx => ?_, fun i k => ?_⟩
  · obtain ⟨k, hk, rfl⟩ := List.mem_iff_getElem.1 hx
    exact ((hg row hr).2 k hk).1
  · obtain ⟨k, hk, rfl⟩ := List.mem_iff_getElem.1 hx
    exact ((hg row hr).2 k hk).2.1
  · simp only
    by_cases hi : i < rows.length
    · rw [show rows.getD i [] = rows[i] from by simp [hi]]
      by_cases hk : k < rows[i].length
      · rw [show rows[i].getD k (-1) = rows[i][k] from by simp [hk]]
        exact ((hg _ (List.getElem_mem hi)).2 k hk).2.2
      · rw [show rows[i].getD k (-1) = -1 from by rw [List.getD_eq_getElem?_getD, List.getElem?_eq_none (by omega)]; rfl]
        omega
    · rw [show rows.getD i [] = [] from by rw [List.getD_eq_getElem?_getD, List.getElem?_eq_none (by omega)]; rfl]
      rw [show ([] : List Int).getD k (-1) = -1 from by simp]
      have := Int.natCast_nonneg (k / R.c % R.c)
      omega
theorem tame_ok (mach : Int) (next : List (List Int)) (kind : Int) : (tameF mach next kind).ok := by
  have B := baseF_ok mach kind
  exact ok_of B (by rw [tRows_len, B.nl]) (tRows_good B.rl _)

/-! ### Rows on a heap -/
theorem own_frame {f : FuncId} {args : List AV} {R : Nat → AV} {rows : List (List Int)} (c : ACalls Try.prog f args AHeap.empty fun r H => ∃ bN bs, r = R bN ∧ RowsAt H bN bs rows) (h : AHeap) :
    ACalls Try.prog f args h fun r H => ∃ bN bs, r = R bN ∧ RowsAt H bN bs rows ∧ (∀ b, h b ≠ none → H b = h b) ∧ ∀ b ∈ bN :: bs, h b = none := by
  have c2 := ACalls.frame c (h2 := h) Disj.empty
  rw [AHeap.empty_un] at c2
  refine ACalls.mono c2 ?_
  rintro r H' ⟨H, rfl, D, bN, bs, rfl, hR⟩
  have un : ∀ b c, H b = some c → (H.un h) b = some c := fun b c q => AHeap.un_some q
  refine ⟨bN, bs, rfl, ⟨hR.len, hR.nd, hR.nN, un _ _ hR.top, fun i h1 h2 => un _ _ (hR.row i h1 h2)⟩, fun b hb => ?_, fun b hb => ?_⟩
  · rw [AHeap.un_at]
    rcases D b with q | q
    · rw [q]
    · exact absurd q hb
  · rcases D b with q | q
    · rcases List.mem_cons.1 hb with rfl | hb
      · rw [hR.top] at q; cases q
      · obtain ⟨i, hi, rfl⟩ := List.mem_iff_getElem.1 hb
        rw [hR.row i hi (by rw [← hR.len]; exact hi)] at q; cases q
    · exact q
theorem cellsAt_of {H : AHeap} {b : Nat} {cs : List AV} (e : H b = some (.cells cs)) (off : Nat) : cellsAt H b off = some (cs.drop off) := by simp [cellsAt, e]
theorem of_cellsAt {H : AHeap} {b : Nat} {cs : List AV} (e : cellsAt H b 0 = some cs) : H b = some (.cells cs) := by
  unfold cellsAt at e
  split at e
  · next cs' h => simp at e; subst e; exact h
  · cases e

/-- The law's blocks: the protocol that came in, the result, the one that is made. -/
structure TF (H : AHeap) (b2 b4 b7 bN : Nat) (bs : List Nat) (inn out : List AV) (m c : Nat) (rows : List (List Int)) : Prop where
  e2 : H b2 = some (.cells inn)
  e4 : H b4 = some (.cells out)
  e7 : H b7 = some (.cells [.int .i64 m, .int .i64 c, .osl bN 0 m 1])
  R : RowsAt H bN bs rows
  d2 : b2 ∉ bs
  d4 : b4 ∉ bs
  d7 : b7 ∉ bs
  n4 : b4 ≠ bN
theorem nodup_inj {l : List Nat} (h : l.Nodup) {i j : Nat} (hi : i < l.length) (hj : j < l.length) (e : l[i] = l[j]) : i = j := by
  rcases Nat.lt_trichotomy i j with q | q | q
  · exact absurd e (List.pairwise_iff_getElem.1 h i j hi hj q)
  · exact q
  · exact absurd e.symm (List.pairwise_iff_getElem.1 h j i hj hi q)
theorem TF.set {H : AHeap} {b2 b4 b7 bN : Nat} {bs : List Nat} {inn out : List AV} {m c : Nat} {rows : List (List Int)} (F : TF H b2 b4 b7 bN bs inn out m c rows) {i : Nat} (h1 : i < bs.length) (h2 : i < rows.length) {row : List Int} (hr : row.length = rows[i].length) :
    TF (H.upd bs[i] (.cells (row.map (.int .i64)))) b2 b4 b7 bN bs inn out m c (rows.set i row) := by
  have ne : ∀ {b : Nat}, b ∉ bs → b ≠ bs[i] := fun {b} hb q => hb (q ▸ List.getElem_mem h1)
  refine ⟨by rw [AHeap.upd_ne (ne F.d2)]; exact F.e2, by rw [AHeap.upd_ne (ne F.d4)]; exact F.e4, by rw [AHeap.upd_ne (ne F.d7)]; exact F.e7, ⟨by rw [F.R.len]; simp, F.R.nd, F.R.nN, ?_, fun j g1 g2 => ?_⟩, F.d2, F.d4, F.d7, F.n4⟩
  · rw [AHeap.upd_ne (ne F.R.nN), F.R.top]
    congr 2
    refine List.ext_getElem (by simp) fun j g1 g2 => ?_
    simp only [List.getElem_zipWith, List.getElem_set]
    split
    · next e => subst e; rw [hr]
    · rfl
  · simp only [List.getElem_set]
    split
    · next e => subst e; rw [AHeap.upd_same]
    · next e =>
      rw [AHeap.upd_ne fun q => e (nodup_inj F.R.nd _ _ q).symm]
      exact F.R.row j g1 _

theorem TF.fin {H : AHeap} {b2 b4 b7 bN : Nat} {bs : List Nat} {inn out cs : List AV} {m c : Nat} {rows : List (List Int)} (F : TF H b2 b4 b7 bN bs inn out m c rows) (hm : rows.length = m) {R : AV → AHeap → Prop} (q : R (.agg [.int .i64 m, .int .i64 c, rowsA rows]) AHeap.empty) :
    finA R (.agg [.int .i64 m, .int .i64 c, .osl bN 0 m 1]) (H.upd b4 (.cells cs)) := by
  refine finA_all 4 ?_
  have h := (F.R.upd (b := b4) (c := .cells cs) (fun e => F.n4 e.symm) F.d4).frz 0
  rw [hm] at h
  rw [frzF]
  simp only [List.map_cons, List.map_nil, h]
  rw [frz_bare (a := .int .i64 m) rfl, frz_bare (a := .int .i64 c) rfl]
  exact q

/-- A place in a loop and the heap. -/
structure TQ where
  i : Nat
  H : AHeap
end Go.Proofs

end

section
/-
  Ring: the walk of the law's tame.
-/
namespace Go.Proofs
open Go Go.AH
set_option maxRecDepth 10000
set_option maxHeartbeats 4000000

theorem dij_any (j : Nat) (hj : j < 7) : ∃ m c : Nat, (m, c) = [(2, 2), (3, 2), (2, 3), (4, 2), (3, 3), (2, 4), (5, 2)].getD j (0, 0) ∧ m < 10 ∧ c < 10 ∧ (dijR m c).next.length = m ∧
    ∀ h, ACalls Try.prog 31 [.int .i64 m, .int .i64 c] h fun r H => ∃ bN bs, r = .tup [.agg [.int .i64 m, .int .i64 c, .osl bN 0 m 1], .bool true] ∧ RowsAt H bN bs (dijR m c).next ∧ (∀ b, h b ≠ none → H b = h b) ∧ ∀ b ∈ bN :: bs, h b = none := by
  have key : ∀ m c : Nat, (dijR m c).next.length = m → (xcallK Try.prog [27, 31] 1000 31 [.int .i64 (m : Int), .int .i64 (c : Int)]).bind outR = some ((m : Int), (c : Int), (dijR m c).next) →
      ∀ h, ACalls Try.prog 31 [.int .i64 m, .int .i64 c] h fun r H => ∃ bN bs, r = .tup [.agg [.int .i64 m, .int .i64 c, .osl bN 0 m 1], .bool true] ∧ RowsAt H bN bs (dijR m c).next ∧ (∀ b, h b ≠ none → H b = h b) ∧ ∀ b ∈ bN :: bs, h b = none := by
    intro m c hl e h
    have c1 := outR_ok refD_calls e
    rw [hl] at c1
    exact own_frame (R := fun bN => .tup [.agg [.int .i64 m, .int .i64 c, .osl bN 0 m 1], .bool true]) c1 h
  match j, hj with
  | 0, _ => exact ⟨2, 2, rfl, by omega, by omega, rfl, key 2 2 rfl ev22⟩
  | 1, _ => exact ⟨3, 2, rfl, by omega, by omega, rfl, key 3 2 rfl ev32⟩
  | 2, _ => exact ⟨2, 3, rfl, by omega, by omega, rfl, key 2 3 rfl ev23⟩
  | 3, _ => exact ⟨4, 2, rfl, by omega, by omega, rfl, key 4 2 rfl ev42⟩
  | 4, _ => exact ⟨3, 3, rfl, by omega, by omega, rfl, key 3 3 rfl ev33⟩
  | 5, _ => exact ⟨2, 4, rfl, by omega, by omega, rfl, key 2 4 rfl ev24⟩
  | 6, _ => exact ⟨5, 2, rfl, by omega, by omega, rfl, key 5 2 rfl ev52⟩
theorem four_any : ∃ m c : Nat, m = 3 ∧ c = 4 ∧ ∀ h, ACalls Try.prog 46 [.int .i64 3] h fun r H => ∃ bN bs, r = .tup [.agg [.int .i64 m, .int .i64 c, .osl bN 0 m 1], .bool true] ∧ RowsAt H bN bs (fourR 3).next ∧ (∀ b, h b ≠ none → H b = h b) ∧ ∀ b ∈ bN :: bs, h b = none :=
  ⟨3, 4, rfl, rfl, own_frame (R := fun bN => .tup [.agg [.int .i64 3, .int .i64 4, .osl bN 0 3 1], .bool true]) (outR_ok refF_calls evF3)⟩

theorem sizes_at (j : Nat) (hj : j < 7) : ∀ m c : Nat, (m, c) = [(2, 2), (3, 2), (2, 3), (4, 2), (3, 3), (2, 4), (5, 2)].getD j (0, 0) →
    (([AV.int .i64 2, .int .i64 2, .int .i64 3, .int .i64 2, .int .i64 2, .int .i64 3, .int .i64 4, .int .i64 2, .int .i64 3, .int .i64 3, .int .i64 2, .int .i64 4, .int .i64 5, .int .i64 2].drop (j * 2)).take 2 = [.int .i64 (m : Int), .int .i64 (c : Int)]) := by
  intro m c e
  match j, hj with
  | 0, _ => cases e; rfl
  | 1, _ => cases e; rfl
  | 2, _ => cases e; rfl
  | 3, _ => cases e; rfl
  | 4, _ => cases e; rfl
  | 5, _ => cases e; rfl
  | 6, _ => cases e; rfl
theorem base_pair (mach kind : Int) : ∀ m c : Nat, (m, c) = [(2, 2), (3, 2), (2, 3), (4, 2), (3, 3), (2, 4), (5, 2)].getD (uM mach 7) (0, 0) → baseF mach kind = if uM kind 4 = 0 ∧ m = 3 then fourR 3 else dijR m c := by
  intro m c e
  have hj := uM_lt (x := mach) (n := 7) (by omega)
  unfold baseF
  match uM mach 7, hj, e with
  | 0, _, e => cases e; simp
  | 1, _, e => cases e; simp
  | 2, _, e => cases e; simp
  | 3, _, e => cases e; simp
  | 4, _, e => cases e; simp
  | 5, _, e => cases e; simp
  | 6, _, e => cases e; simp

theorem l_tame (mach col : Int) (next : List (List Int)) (kind : Int) (hn : next.length ≤ 20000000000000) (hrl : ∀ row ∈ next, row.length ≤ 20000000000000) : Pure Try.prog 11 [.agg [.int .i64 mach, .int .i64 col, rowsA next], .int .i64 kind] (tameF mach next kind).av := by
  refine pure_of (acalls_of Try.func11 rfl Try.call11 (by kernel_rfl) (by show _ ≤ (126 : Nat); simp) ?_)
  have hj := uM_lt (x := mach) (n := 7) (by omega)
  obtain ⟨m, c, hmc, hm10, hc10, hlen, cd⟩ := dij_any (uM mach 7) hj
  have hsz := sizes_at (uM mach 7) hj m c hmc
  have hb := base_pair mach kind m c hmc
  have hmod : (IntKind.u64.wrap mach).tmod 7 = (uM mach 7 : Int) := uM_mod (n := 7) (by omega)
  have hkmod : (IntKind.u64.wrap kind).tmod 4 = (uM kind 4 : Int) := uM_mod (n := 4) (by omega)
  obtain ⟨j, hje⟩ : ∃ j, j = uM mach 7 := ⟨_, rfl⟩
  rw [← hje] at hj hmod hsz
  have hj14 : j * 2 + 2 ≤ 14 := by omega
  have hj14' : 2 ≤ 14 - j * 2 := by omega
  have hbm := baseF_ok mach kind
  have hjI : (j : Int) < 7 := by omega
  simp
  intro b2 hb2
  simp
  intro b4 hb4
  simp at hb4
  simp [hb4, splice]
  intro b5 hb5
  simp at hb5
  simp [hb4, hb5, hmod, hj, hjI, hj14, hj14', hsz]
  intro b6 hb6
  simp at hb6
  simp [hb4, hb5, hb6]
  refine ACalls.mono (cd _) ?_
  rintro r H0 ⟨bN, bs, rfl, hR, hP, hF⟩
  have p2 := hP b2 (by simp [AHeap.upd, hb4, hb5, hb6])
  have p4 := hP b4 (by simp [AHeap.upd, hb4, hb5, hb6])
  have p6 := hP b6 (by simp [AHeap.upd, hb4, hb5, hb6])
  simp [AHeap.upd, hb4, hb5, hb6] at p2 p4 p6
  have n2 : b2 ∉ bN :: bs := fun q => by have := hF b2 q; simp [AHeap.upd, hb4, hb5, hb6] at this
  have n4 : b4 ∉ bN :: bs := fun q => by have := hF b4 q; simp [AHeap.upd, hb4, hb5, hb6] at this
  have n6 : b6 ∉ bN :: bs := fun q => by have := hF b6 q; simp [AHeap.upd, hb4, hb5, hb6] at this
  have c2 := cellsAt_of p2
  have c4 := cellsAt_of p4
  have c6 := cellsAt_of p6
  simp only [List.mem_cons, not_or] at n2 n4 n6
  clear hP hF
  simp
  intro b7 hb7
  have d2 := ne_fresh (c2 0) hb7
  have d4 := ne_fresh (c4 0) hb7
  have d6 := ne_fresh (c6 0) hb7
  have dN := ne_fresh (cellsAt_of hR.top 0) hb7
  have dbs : b7 ∉ bs := fun q => by
    obtain ⟨x, hx, e⟩ := List.mem_iff_getElem.1 q
    have := hR.row x hx (by rw [← hR.len]; exact hx)
    rw [e] at this
    unfold Fresh at hb7
    rw [hb7] at this; cases this
  simp [c6, d6, hkmod]
  by_cases hk4 : uM kind 4 = 0
  · by_cases hm3 : m = 3
    · subst hm3
      obtain ⟨m', c', hm', hc', cf⟩ := four_any
      have hb' : baseF mach kind = Rul.mk m' c' (fourR 3).next := by rw [hb, if_pos ⟨hk4, rfl⟩, hm', hc']; rfl
      simp [hk4, c6, d6]
      refine ACalls.mono (cf _) ?_
      rintro r H3 ⟨bN, bs, rfl, hR3, hP3, hF3⟩
      have r2 := hP3 b2 (by rw [AHeap.upd_ne d2.1, p2]; simp)
      have r4 := hP3 b4 (by rw [AHeap.upd_ne d4.1, p4]; simp)
      have r7 := hP3 b7 (by rw [AHeap.upd_same]; simp)
      rw [AHeap.upd_ne d2.1, p2] at r2
      rw [AHeap.upd_ne d4.1, p4] at r4
      rw [AHeap.upd_same] at r7
      have m2 : b2 ∉ bN :: bs := fun q => by have := hF3 b2 q; rw [AHeap.upd_ne d2.1, p2] at this; cases this
      have m4 : b4 ∉ bN :: bs := fun q => by have := hF3 b4 q; rw [AHeap.upd_ne d4.1, p4] at this; cases this
      have m7 : b7 ∉ bN :: bs := fun q => by have := hF3 b7 q; rw [AHeap.upd_same] at this; cases this
      simp only [List.mem_cons, not_or] at m2 m4 m7
      have s7 := cellsAt_of r7
      simp [s7]
      obtain ⟨H1, hH1⟩ : ∃ H1, H1 = H3.upd b7 (.cells [.int .i64 m', .int .i64 c', .osl bN 0 m' 1]) := ⟨_, rfl⟩
      rw [← hH1]
      have F : TF H1 b2 b4 b7 bN bs [.int .i64 mach, .int .i64 col, rowsA next] [.int .i64 0, .int .i64 0, .nilsl] m' c' (fourR 3).next := by
        rw [hH1]
        exact ⟨by rw [AHeap.upd_ne d2.1]; exact r2, by rw [AHeap.upd_ne d4.1]; exact r4, AHeap.upd_same, hR3.upd (fun e => m7.1 e.symm) m7.2, m2.2, m4.2, m7.2, m4.1⟩
      have B := hbm
      rw [hb'] at B
      have g7 := cellsAt_of F.e7
      have hm6 : (m' : Nat) ≤ 5 := B.m6
      have hc4 : (c' : Nat) ≤ 4 := B.c6
      have hc2 : 2 ≤ (c' : Nat) := B.c2
      have hnl : (Rul.mk m' c' (fourR 3).next).next.length = m' := B.nl
      have hrlen : ∀ row ∈ (Rul.mk m' c' (fourR 3).next).next, row.length = c' * c' * c' := fun row hr => (B.rl row hr).1
      simp [g7]
      refine awp_loop_g (γ := TQ) (fun q t h => (q.i ≤ m') ∧ (TF q.H b2 b4 b7 bN bs [.int .i64 mach, .int .i64 col, rowsA next] [.int .i64 0, .int .i64 0, .nilsl] m' c' (tRows c' kind next (Rul.mk m' c' (fourR 3).next).next q.i)) ∧ (q.i ≤ next.length) ∧ t 1 = .int .i64 kind ∧ t 2 = .ptr b2 0 ∧ t 4 = .ptr b4 0 ∧ t 7 = .ptr b7 0 ∧ t 9 = .int .i64 (c' : Nat) ∧ t 10 = .int .i64 q.i ∧ h = q.H) (fun q => m' - q.i) (⟨0, H1⟩) (turnA_self (by simp [tRows, F])) ?_
      rintro q t h ⟨hi, hF, hin, h1, h2, h4, h7, h9, h10, rfl⟩
      obtain ⟨i, H⟩ := q
      simp only at h1 h2 h4 h7 h9 h10 hi hF hin
      have i2 := cellsAt_of hF.e2
      have i4 := cellsAt_of hF.e4
      have i7 := cellsAt_of hF.e7
      have iN := cellsAt_of hF.R.top
      by_cases hlt : i < next.length
      · have hltI : (i : Int) < (next.length : Int) := by omega
        by_cases hltm : i < m'
        · have hltmI : (i : Int) < (m' : Nat) := by omega
          have hwi : IntKind.i64.wrap ((i : Int) + 1) = (i : Int) + 1 := wrap_i64 (by omega) (by omega)
          obtain ⟨src, hsrc⟩ : ∃ src, src = next[i] := ⟨_, rfl⟩
          have hsrc' : next[i]'hlt = src := hsrc.symm
          have hsl : src.length ≤ 20000000000000 := by rw [hsrc]; exact hrl _ (List.getElem_mem hlt)
          have hgn : next.getD i [] = src := by simp [hlt, hsrc]
          have hir : i < (Rul.mk m' c' (fourR 3).next).next.length := by omega
          have hitr : i < (tRows c' kind next (Rul.mk m' c' (fourR 3).next).next i).length := by rw [tRows_len]; exact hir
          have hgr : (Rul.mk m' c' (fourR 3).next).next.getD i [] = (Rul.mk m' c' (fourR 3).next).next[i] := by simp [hir]
          have hget : (tRows c' kind next (Rul.mk m' c' (fourR 3).next).next i)[i] = (Rul.mk m' c' (fourR 3).next).next[i] := tRows_get i i hitr hir (Nat.le_refl _)
          have hrl0 : (Rul.mk m' c' (fourR 3).next).next[i].length = c' * c' * c' := hrlen _ (List.getElem_mem hir)
          obtain ⟨row0, hrow0⟩ : ∃ row0, row0 = (Rul.mk m' c' (fourR 3).next).next[i] := ⟨_, rfl⟩
          rw [← hrow0] at hgr hget hrl0
          obtain ⟨N, hN⟩ : ∃ N, N = c' * c' * c' := ⟨_, rfl⟩
          have hcc16 : (c' : Nat) * c' ≤ 4 * 4 := Nat.mul_le_mul hc4 hc4
          have hN64 : N ≤ 16 * 4 := by rw [hN]; exact Nat.mul_le_mul hcc16 hc4
          obtain ⟨CC, hCC⟩ : ∃ CC : Nat, CC = c' * c' := ⟨_, rfl⟩
          rw [← hCC] at hN hcc16
          have w1 : IntKind.i64.wrap (((c' : Nat) : Int) * ((c' : Nat) : Int)) = (CC : Int) := by rw [← Int.natCast_mul, ← hCC]; exact wrap_i64 (by omega) (by omega)
          have w2 : IntKind.i64.wrap ((CC : Int) * ((c' : Nat) : Int)) = (N : Int) := by rw [← Int.natCast_mul, ← hN]; exact wrap_i64 (by omega) (by omega)
          rw [← hCC, ← hN] at hrl0
          have hself : (tRows c' kind next (Rul.mk m' c' (fourR 3).next).next i).set i row0 = tRows c' kind next (Rul.mk m' c' (fourR 3).next).next i := by rw [← hget]; exact List.set_getElem_self _
          simp [h1, h2, h4, h7, h9, h10, i2, i7, hlt, hltI, hltm, hltmI, rowsA]
          refine awp_loop_g (γ := TQ) (fun p t h => (p.i ≤ N) ∧ (p.i ≤ src.length) ∧ (TF p.H b2 b4 b7 bN bs [.int .i64 mach, .int .i64 col, rowsA next] [.int .i64 0, .int .i64 0, .nilsl] m' c' ((tRows c' kind next (Rul.mk m' c' (fourR 3).next).next i).set i (tRow c' kind src row0 p.i))) ∧ t 1 = .int .i64 kind ∧ t 2 = .ptr b2 0 ∧ t 4 = .ptr b4 0 ∧ t 7 = .ptr b7 0 ∧ t 9 = .int .i64 (c' : Nat) ∧ t 10 = .int .i64 i ∧ t 11 = .int .i64 p.i ∧ h = p.H) (fun p => N - p.i) (⟨0, H⟩) (turnA_self (by simp [h1, h2, h4, h7, h9, h10, tRow, hself, hF])) ?_
          rintro p t h ⟨hk, hks, hF2, h1, h2, h4, h7, h9, h10, h11, rfl⟩
          obtain ⟨k, H2⟩ := p
          simp only at h1 h2 h4 h7 h9 h10 h11 hk hks hF2
          have k2 := cellsAt_of hF2.e2
          have k7 := cellsAt_of hF2.e7
          have kN := cellsAt_of hF2.R.top
          have hlen2 : ((tRows c' kind next (Rul.mk m' c' (fourR 3).next).next i).set i (tRow c' kind src row0 k)).length = m' := by rw [List.length_set, tRows_len, hnl]
          have hbl : bs.length = m' := by rw [hF2.R.len, hlen2]
          have hib : i < bs.length := by omega
          obtain ⟨bi, hbi⟩ : ∃ bi, bi = bs[i] := ⟨_, rfl⟩
          have hir2 : i < ((tRows c' kind next (Rul.mk m' c' (fourR 3).next).next i).set i (tRow c' kind src row0 k)).length := by omega
          have hrowg : ((tRows c' kind next (Rul.mk m' c' (fourR 3).next).next i).set i (tRow c' kind src row0 k))[i] = tRow c' kind src row0 k := List.getElem_set_self _
          have kr := hF2.R.row i hib hir2
          rw [hrowg, ← hbi] at kr
          have krow := cellsAt_of kr
          have htl : (tRow c' kind src row0 k).length = N := by rw [tRow_len, hrl0]
          have hset2 : ∀ row' : List Int, row'.length = N → TF (H2.upd bi (.cells (row'.map (.int .i64)))) b2 b4 b7 bN bs [.int .i64 mach, .int .i64 col, rowsA next] [.int .i64 0, .int .i64 0, .nilsl] m' c' ((tRows c' kind next (Rul.mk m' c' (fourR 3).next).next i).set i row') := by
            intro row' hr'
            have := hF2.set hib hir2 (row := row') (by rw [hrowg, htl, hr'])
            rw [List.set_set, ← hbi] at this
            exact this
          obtain ⟨T, hT⟩ : ∃ T, T = List.zipWith (fun (b : Nat) (r : List Int) => AV.osl b 0 r.length 1) bs ((tRows c' kind next (Rul.mk m' c' (fourR 3).next).next i).set i (tRow c' kind src row0 k)) := ⟨_, rfl⟩
          have hTl : T.length = m' := by rw [hT, List.length_zipWith, hbl, hlen2, Nat.min_self]
          have hiT : i < T.length := by omega
          have hTi : T[i] = .osl bi 0 N 1 := by
            subst hT
            rw [List.getElem_zipWith, ← hbi, hrowg, htl]
          rw [← hT] at kN
          by_cases hltk : k < src.length
          · have hltkI : (k : Int) < (src.length : Int) := by omega
            by_cases hltN : k < N
            · have hltNI : (k : Int) < (N : Int) := by omega
              have hwk : IntKind.i64.wrap ((k : Int) + 1) = (k : Int) + 1 := wrap_i64 (by omega) (by omega)
              obtain ⟨x, hx⟩ : ∃ x, x = src[k] := ⟨_, rfl⟩
              have hx' : src[k]'hltk = x := hx.symm
              have hgx : src.getD k 0 = x := by simp [hltk, hx]
              have hm3k : (IntKind.u64.wrap kind).tmod 3 = (uM kind 3 : Int) := uM_mod (n := 3) (by omega)
              have hm7x : (IntKind.u64.wrap x).tmod 7 = (uM x 7 : Int) := uM_mod (n := 7) (by omega)
              obtain ⟨u3, hu3⟩ : ∃ u3, u3 = uM kind 3 := ⟨_, rfl⟩
              obtain ⟨u7, hu7⟩ : ∃ u7, u7 = uM x 7 := ⟨_, rfl⟩
              obtain ⟨D, hD⟩ : ∃ D : Nat, D = (IntKind.u64.wrap x / 7).toNat := ⟨_, rfl⟩
              have hx0 := u64_nonneg x
              have hDI : (D : Int) = IntKind.u64.wrap x / 7 := by rw [hD]; omega
              have v1 : (IntKind.u64.wrap x).tdiv 7 = (D : Int) := by rw [Int.tdiv_eq_ediv_of_nonneg hx0.1, hDI]
              have v2 : IntKind.u64.wrap (D : Int) = D := wrap_u64 (by omega) (by omega)
              have w3 : IntKind.i64.wrap (((c' : Nat) : Int) + 1) = ((c' : Nat) : Int) + 1 := wrap_i64 (by omega) (by omega)
              have w4 : IntKind.u64.wrap (((c' : Nat) : Int) + 1) = ((c' : Nat) : Int) + 1 := wrap_u64 (by omega) (by omega)
              obtain ⟨uy, huy⟩ : ∃ uy, uy = uY c' x := ⟨_, rfl⟩
              have huyc : uy ≤ c' := by rw [huy]; exact uY_le _ _
              have v3 : (D : Int).tmod (((c' : Nat) : Int) + 1) = (uy : Int) := by
                rw [Int.tmod_eq_emod_of_nonneg (by omega), hDI, huy]
                unfold uY
                have h2 := Int.emod_nonneg (IntKind.u64.wrap x / 7) (show (((c' : Nat) + 1 : Nat) : Int) ≠ 0 by omega)
                have e1 : (((c' : Nat) : Int) + 1) = (((c' : Nat) + 1 : Nat) : Int) := by omega
                rw [e1]
                omega
              have v4 : IntKind.i64.wrap (uy : Int) = uy := wrap_i64 (by omega) (by omega)
              have v5 : IntKind.i64.wrap ((uy : Int) - 1) = (uy : Int) - 1 := wrap_i64 (by omega) (by omega)
              have hty : tY c' x = (uy : Int) - 1 := by unfold tY; rw [← huy]
              have hc0 : ¬ (c' : Nat) = 0 := by omega
              have hc1 : ¬ (((c' : Nat) : Int) + 1 = 0) := by omega
              obtain ⟨kd, hkd⟩ : ∃ kd, kd = k / c' := ⟨_, rfl⟩
              have hkdl : kd ≤ k := by rw [hkd]; exact Nat.div_le_self _ _
              obtain ⟨km, hkm⟩ : ∃ km, km = kd % c' := ⟨_, rfl⟩
              have z1 : (k : Int).tdiv ((c' : Nat) : Int) = (kd : Int) := by rw [Int.tdiv_eq_ediv_of_nonneg (by omega), hkd]; rfl
              have z2 : IntKind.i64.wrap (kd : Int) = kd := wrap_i64 (by omega) (by omega)
              have z3 : (kd : Int).tmod ((c' : Nat) : Int) = (km : Int) := by rw [Int.tmod_eq_emod_of_nonneg (by omega), hkm]; rfl
              have hkml : km ≤ kd := by rw [hkm]; exact Nat.mod_le _ _
              have z4 : IntKind.i64.wrap (km : Int) = km := wrap_i64 (by omega) (by omega)
              have hnext : tRow c' kind src row0 (k + 1) = if 0 < u3 ∧ 0 < u7 then tRow c' kind src row0 k else if (uy : Int) - 1 = (km : Int) then tRow c' kind src row0 k else (tRow c' kind src row0 k).set k ((uy : Int) - 1) := by
                rw [tRow, hgx, hty, ← hu3, ← hu7, ← hkd, ← hkm]
              rw [← hu3] at hm3k
              rw [← hu7] at hm7x
              simp [h1, h2, h4, h7, h9, h10, h11, k2, k7, rowsA, intsA, hlt, hltI, hsrc', hltk, hltkI, hx', w1, w2, hltN, hltNI, hm3k, hm7x]
              by_cases hA : 0 < u3
              · by_cases hB : 0 < u7
                · rw [if_pos ⟨hA, hB⟩] at hnext
                  simp [h1, h2, h4, h7, h9, h10, h11, hA, hB, k2, k7, rowsA, intsA, hlt, hltI, hsrc', hltk, hltkI, hx', hm3k, hm7x]
                  exact turnA_self ⟨⟨k + 1, H2⟩, by simp only; omega, by simp only; omega, by simp only; omega, by simp only; rw [hnext]; exact hF2, by simp [h1, h2, h4, h7, h9, h10, h11, hwk]⟩
                · rw [if_neg (fun q => hB q.2)] at hnext
                  by_cases hyk : (uy : Int) - 1 = (km : Int)
                  · rw [if_pos hyk] at hnext
                    simp [h1, h2, h4, h7, h9, h10, h11, hA, hB, k2, k7, rowsA, intsA, hlt, hltI, hsrc', hltk, hltkI, hx', hm3k, hm7x, v1, v2, v3, v4, v5, w3, w4, hc0, hc1, z1, z2, z3, z4, hyk]
                    exact turnA_self ⟨⟨k + 1, H2⟩, by simp only; omega, by simp only; omega, by simp only; omega, by simp only; rw [hnext]; exact hF2, by simp [h1, h2, h4, h7, h9, h10, h11, hwk]⟩
                  · rw [if_neg hyk] at hnext
                    have hmap : ((tRow c' kind src row0 k).map (AV.int .i64)).set k (AV.int .i64 ((uy : Int) - 1)) = (tRow c' kind src row0 (k + 1)).map (AV.int .i64) := by rw [hnext, List.map_set]
                    have hF3 := hset2 (tRow c' kind src row0 (k + 1)) (by rw [tRow_len, hrl0])
                    have hmI : (i : Int) < (T.length : Int) := by omega
                    have hk1 : k + 1 ≤ N := by omega
                    simp [h1, h2, h4, h7, h9, h10, h11, hA, hB, k2, k7, kN, krow, rowsA, intsA, hlt, hltI, hltm, hltmI, hsrc', hltk, hltkI, hltN, hltNI, hx', hm3k, hm7x, v1, v2, v3, v4, v5, w3, w4, hc0, hc1, z1, z2, z3, z4, hyk, hiT, hTi, htl, hk1]
                    exact turnA_self ⟨⟨k + 1, H2.upd bi (.cells ((tRow c' kind src row0 (k + 1)).map (.int .i64)))⟩, by simp only; omega, by simp only; omega, by simp only; omega, hF3, by simp [h1, h2, h4, h7, h9, h10, h11, hwk, hmap]⟩
              · rw [if_neg (fun q => hA q.1)] at hnext
                have hB : True := trivial
                by_cases hyk : (uy : Int) - 1 = (km : Int)
                · rw [if_pos hyk] at hnext
                  simp [h1, h2, h4, h7, h9, h10, h11, hA, hB, k2, k7, rowsA, intsA, hlt, hltI, hsrc', hltk, hltkI, hx', hm3k, hm7x, v1, v2, v3, v4, v5, w3, w4, hc0, hc1, z1, z2, z3, z4, hyk]
                  exact turnA_self ⟨⟨k + 1, H2⟩, by simp only; omega, by simp only; omega, by simp only; omega, by simp only; rw [hnext]; exact hF2, by simp [h1, h2, h4, h7, h9, h10, h11, hwk]⟩
                · rw [if_neg hyk] at hnext
                  have hmap : ((tRow c' kind src row0 k).map (AV.int .i64)).set k (AV.int .i64 ((uy : Int) - 1)) = (tRow c' kind src row0 (k + 1)).map (AV.int .i64) := by rw [hnext, List.map_set]
                  have hF3 := hset2 (tRow c' kind src row0 (k + 1)) (by rw [tRow_len, hrl0])
                  have hmI : (i : Int) < (T.length : Int) := by omega
                  have hk1 : k + 1 ≤ N := by omega
                  simp [h1, h2, h4, h7, h9, h10, h11, hA, hB, k2, k7, kN, krow, rowsA, intsA, hlt, hltI, hltm, hltmI, hsrc', hltk, hltkI, hltN, hltNI, hx', hm3k, hm7x, v1, v2, v3, v4, v5, w3, w4, hc0, hc1, z1, z2, z3, z4, hyk, hiT, hTi, htl, hk1]
                  exact turnA_self ⟨⟨k + 1, H2.upd bi (.cells ((tRow c' kind src row0 (k + 1)).map (.int .i64)))⟩, by simp only; omega, by simp only; omega, by simp only; omega, hF3, by simp [h1, h2, h4, h7, h9, h10, h11, hwk, hmap]⟩
            · have hkN : k = N := by omega
              have hnr : tRows c' kind next (Rul.mk m' c' (fourR 3).next).next (i + 1) = (tRows c' kind next (Rul.mk m' c' (fourR 3).next).next i).set i (tRow c' kind src row0 k) := by
                rw [tRows, hgn, hgr, ← hCC, ← hN, hkN, Nat.min_eq_right (by omega)]
              have hltNI : ¬ (k : Int) < (N : Int) := by omega
              simp [h1, h2, h4, h7, h9, h10, h11, k2, rowsA, intsA, hlt, hltI, hsrc', hltk, hltkI, w1, w2, hltN, hltNI]
              exact turnA_self ⟨⟨i + 1, H2⟩, by simp only; omega, by simp only; omega, by simp only; rw [hnr]; exact hF2, by simp only; omega, by simp [h1, h2, h4, h7, h9, h10, h11, hwi]⟩
          · have hkS : k = src.length := by omega
            have hnr : tRows c' kind next (Rul.mk m' c' (fourR 3).next).next (i + 1) = (tRows c' kind next (Rul.mk m' c' (fourR 3).next).next i).set i (tRow c' kind src row0 k) := by
              rw [tRows, hgn, hgr, ← hCC, ← hN, hkS, Nat.min_eq_left (by omega)]
            have hltkI : ¬ (k : Int) < (src.length : Int) := by omega
            simp [h1, h2, h4, h7, h9, h10, h11, k2, rowsA, intsA, hlt, hltI, hsrc', hltk, hltkI]
            exact turnA_self ⟨⟨i + 1, H2⟩, by simp only; omega, by simp only; omega, by simp only; rw [hnr]; exact hF2, by simp only; omega, by simp [h1, h2, h4, h7, h9, h10, h11, hwi]⟩
        · have him : i = m' := by omega
          have hltmI : ¬ (i : Int) < (m' : Nat) := by omega
          have hav : (tameF mach next kind).av = .agg [.int .i64 (m' : Nat), .int .i64 (c' : Nat), rowsA (tRows c' kind next (Rul.mk m' c' (fourR 3).next).next i)] := by
            unfold tameF
            rw [hb']
            show AV.agg [.int .i64 ((m' : Nat) : Int), .int .i64 ((c' : Nat) : Int), rowsA (tRows c' kind next (Rul.mk m' c' (fourR 3).next).next (min next.length m'))] = _
            rw [Nat.min_eq_right (by omega), ← him]
          simp [h1, h2, h4, h7, h9, h10, i2, i4, i7, hlt, hltI, hltm, hltmI, rowsA]
          refine hF.fin (by rw [tRows_len, hnl]) ?_
          rw [hav]
      · have hin2 : i = next.length := by omega
        have hltI : ¬ (i : Int) < (next.length : Int) := by omega
        have hav : (tameF mach next kind).av = .agg [.int .i64 (m' : Nat), .int .i64 (c' : Nat), rowsA (tRows c' kind next (Rul.mk m' c' (fourR 3).next).next i)] := by
          unfold tameF
          rw [hb']
          show AV.agg [.int .i64 ((m' : Nat) : Int), .int .i64 ((c' : Nat) : Int), rowsA (tRows c' kind next (Rul.mk m' c' (fourR 3).next).next (min next.length m'))] = _
          rw [Nat.min_eq_left (by omega), ← hin2]
        simp [h1, h2, h4, h7, h9, h10, i2, i4, i7, hlt, hltI, rowsA]
        refine hF.fin (by rw [tRows_len, hnl]) ?_
        rw [hav]
    · have hb' : baseF mach kind = dijR m c := by rw [hb, if_neg (by omega)]
      have hm3I : ¬ (m : Int) = 3 := by omega
      simp [hk4, hm3, hm3I, c6, d6]
      obtain ⟨H1, hH1⟩ : ∃ H1, H1 = H0.upd b7 (.cells [.int .i64 m, .int .i64 c, .osl bN 0 m 1]) := ⟨_, rfl⟩
      rw [← hH1]
      have F : TF H1 b2 b4 b7 bN bs [.int .i64 mach, .int .i64 col, rowsA next] [.int .i64 0, .int .i64 0, .nilsl] m c (dijR m c).next := by
        rw [hH1]
        exact ⟨by rw [AHeap.upd_ne d2.1]; exact p2, by rw [AHeap.upd_ne d4.1]; exact p4, AHeap.upd_same, hR.upd dN.1 dbs, n2.2, n4.2, dbs, n4.1⟩
      have B := hbm
      rw [hb'] at B
      have g7 := cellsAt_of F.e7
      have hm6 : (m : Nat) ≤ 5 := B.m6
      have hc4 : (c : Nat) ≤ 4 := B.c6
      have hc2 : 2 ≤ (c : Nat) := B.c2
      have hnl : (dijR m c).next.length = m := B.nl
      have hrlen : ∀ row ∈ (dijR m c).next, row.length = c * c * c := fun row hr => (B.rl row hr).1
      simp [g7]
      refine awp_loop_g (γ := TQ) (fun q t h => (q.i ≤ m) ∧ (TF q.H b2 b4 b7 bN bs [.int .i64 mach, .int .i64 col, rowsA next] [.int .i64 0, .int .i64 0, .nilsl] m c (tRows c kind next (dijR m c).next q.i)) ∧ (q.i ≤ next.length) ∧ t 1 = .int .i64 kind ∧ t 2 = .ptr b2 0 ∧ t 4 = .ptr b4 0 ∧ t 7 = .ptr b7 0 ∧ t 9 = .int .i64 (c : Nat) ∧ t 10 = .int .i64 q.i ∧ h = q.H) (fun q => m - q.i) (⟨0, H1⟩) (turnA_self (by simp [tRows, F])) ?_
      rintro q t h ⟨hi, hF, hin, h1, h2, h4, h7, h9, h10, rfl⟩
      obtain ⟨i, H⟩ := q
      simp only at h1 h2 h4 h7 h9 h10 hi hF hin
      have i2 := cellsAt_of hF.e2
      have i4 := cellsAt_of hF.e4
      have i7 := cellsAt_of hF.e7
      have iN := cellsAt_of hF.R.top
      by_cases hlt : i < next.length
      · have hltI : (i : Int) < (next.length : Int) := by omega
        by_cases hltm : i < m
        · have hltmI : (i : Int) < (m : Nat) := by omega
          have hwi : IntKind.i64.wrap ((i : Int) + 1) = (i : Int) + 1 := wrap_i64 (by omega) (by omega)
          obtain ⟨src, hsrc⟩ : ∃ src, src = next[i] := ⟨_, rfl⟩
          have hsrc' : next[i]'hlt = src := hsrc.symm
          have hsl : src.length ≤ 20000000000000 := by rw [hsrc]; exact hrl _ (List.getElem_mem hlt)
          have hgn : next.getD i [] = src := by simp [hlt, hsrc]
          have hir : i < (dijR m c).next.length := by omega
          have hitr : i < (tRows c kind next (dijR m c).next i).length := by rw [tRows_len]; exact hir
          have hgr : (dijR m c).next.getD i [] = (dijR m c).next[i] := by simp [hir]
          have hget : (tRows c kind next (dijR m c).next i)[i] = (dijR m c).next[i] := tRows_get i i hitr hir (Nat.le_refl _)
          have hrl0 : (dijR m c).next[i].length = c * c * c := hrlen _ (List.getElem_mem hir)
          obtain ⟨row0, hrow0⟩ : ∃ row0, row0 = (dijR m c).next[i] := ⟨_, rfl⟩
          rw [← hrow0] at hgr hget hrl0
          obtain ⟨N, hN⟩ : ∃ N, N = c * c * c := ⟨_, rfl⟩
          have hcc16 : (c : Nat) * c ≤ 4 * 4 := Nat.mul_le_mul hc4 hc4
          have hN64 : N ≤ 16 * 4 := by rw [hN]; exact Nat.mul_le_mul hcc16 hc4
          obtain ⟨CC, hCC⟩ : ∃ CC : Nat, CC = c * c := ⟨_, rfl⟩
          rw [← hCC] at hN hcc16
          have w1 : IntKind.i64.wrap (((c : Nat) : Int) * ((c : Nat) : Int)) = (CC : Int) := by rw [← Int.natCast_mul, ← hCC]; exact wrap_i64 (by omega) (by omega)
          have w2 : IntKind.i64.wrap ((CC : Int) * ((c : Nat) : Int)) = (N : Int) := by rw [← Int.natCast_mul, ← hN]; exact wrap_i64 (by omega) (by omega)
          rw [← hCC, ← hN] at hrl0
          have hself : (tRows c kind next (dijR m c).next i).set i row0 = tRows c kind next (dijR m c).next i := by rw [← hget]; exact List.set_getElem_self _
          simp [h1, h2, h4, h7, h9, h10, i2, i7, hlt, hltI, hltm, hltmI, rowsA]
          refine awp_loop_g (γ := TQ) (fun p t h => (p.i ≤ N) ∧ (p.i ≤ src.length) ∧ (TF p.H b2 b4 b7 bN bs [.int .i64 mach, .int .i64 col, rowsA next] [.int .i64 0, .int .i64 0, .nilsl] m c ((tRows c kind next (dijR m c).next i).set i (tRow c kind src row0 p.i))) ∧ t 1 = .int .i64 kind ∧ t 2 = .ptr b2 0 ∧ t 4 = .ptr b4 0 ∧ t 7 = .ptr b7 0 ∧ t 9 = .int .i64 (c : Nat) ∧ t 10 = .int .i64 i ∧ t 11 = .int .i64 p.i ∧ h = p.H) (fun p => N - p.i) (⟨0, H⟩) (turnA_self (by simp [h1, h2, h4, h7, h9, h10, tRow, hself, hF])) ?_
          rintro p t h ⟨hk, hks, hF2, h1, h2, h4, h7, h9, h10, h11, rfl⟩
          obtain ⟨k, H2⟩ := p
          simp only at h1 h2 h4 h7 h9 h10 h11 hk hks hF2
          have k2 := cellsAt_of hF2.e2
          have k7 := cellsAt_of hF2.e7
          have kN := cellsAt_of hF2.R.top
          have hlen2 : ((tRows c kind next (dijR m c).next i).set i (tRow c kind src row0 k)).length = m := by rw [List.length_set, tRows_len, hnl]
          have hbl : bs.length = m := by rw [hF2.R.len, hlen2]
          have hib : i < bs.length := by omega
          obtain ⟨bi, hbi⟩ : ∃ bi, bi = bs[i] := ⟨_, rfl⟩
          have hir2 : i < ((tRows c kind next (dijR m c).next i).set i (tRow c kind src row0 k)).length := by omega
          have hrowg : ((tRows c kind next (dijR m c).next i).set i (tRow c kind src row0 k))[i] = tRow c kind src row0 k := List.getElem_set_self _
          have kr := hF2.R.row i hib hir2
          rw [hrowg, ← hbi] at kr
          have krow := cellsAt_of kr
          have htl : (tRow c kind src row0 k).length = N := by rw [tRow_len, hrl0]
          have hset2 : ∀ row' : List Int, row'.length = N → TF (H2.upd bi (.cells (row'.map (.int .i64)))) b2 b4 b7 bN bs [.int .i64 mach, .int .i64 col, rowsA next] [.int .i64 0, .int .i64 0, .nilsl] m c ((tRows c kind next (dijR m c).next i).set i row') := by
            intro row' hr'
            have := hF2.set hib hir2 (row := row') (by rw [hrowg, htl, hr'])
            rw [List.set_set, ← hbi] at this
            exact this
          obtain ⟨T, hT⟩ : ∃ T, T = List.zipWith (fun (b : Nat) (r : List Int) => AV.osl b 0 r.length 1) bs ((tRows c kind next (dijR m c).next i).set i (tRow c kind src row0 k)) := ⟨_, rfl⟩
          have hTl : T.length = m := by rw [hT, List.length_zipWith, hbl, hlen2, Nat.min_self]
          have hiT : i < T.length := by omega
          have hTi : T[i] = .osl bi 0 N 1 := by
            subst hT
            rw [List.getElem_zipWith, ← hbi, hrowg, htl]
          rw [← hT] at kN
          by_cases hltk : k < src.length
          · have hltkI : (k : Int) < (src.length : Int) := by omega
            by_cases hltN : k < N
            · have hltNI : (k : Int) < (N : Int) := by omega
              have hwk : IntKind.i64.wrap ((k : Int) + 1) = (k : Int) + 1 := wrap_i64 (by omega) (by omega)
              obtain ⟨x, hx⟩ : ∃ x, x = src[k] := ⟨_, rfl⟩
              have hx' : src[k]'hltk = x := hx.symm
              have hgx : src.getD k 0 = x := by simp [hltk, hx]
              have hm3k : (IntKind.u64.wrap kind).tmod 3 = (uM kind 3 : Int) := uM_mod (n := 3) (by omega)
              have hm7x : (IntKind.u64.wrap x).tmod 7 = (uM x 7 : Int) := uM_mod (n := 7) (by omega)
              obtain ⟨u3, hu3⟩ : ∃ u3, u3 = uM kind 3 := ⟨_, rfl⟩
              obtain ⟨u7, hu7⟩ : ∃ u7, u7 = uM x 7 := ⟨_, rfl⟩
              obtain ⟨D, hD⟩ : ∃ D : Nat, D = (IntKind.u64.wrap x / 7).toNat := ⟨_, rfl⟩
              have hx0 := u64_nonneg x
              have hDI : (D : Int) = IntKind.u64.wrap x / 7 := by rw [hD]; omega
              have v1 : (IntKind.u64.wrap x).tdiv 7 = (D : Int) := by rw [Int.tdiv_eq_ediv_of_nonneg hx0.1, hDI]
              have v2 : IntKind.u64.wrap (D : Int) = D := wrap_u64 (by omega) (by omega)
              have w3 : IntKind.i64.wrap (((c : Nat) : Int) + 1) = ((c : Nat) : Int) + 1 := wrap_i64 (by omega) (by omega)
              have w4 : IntKind.u64.wrap (((c : Nat) : Int) + 1) = ((c : Nat) : Int) + 1 := wrap_u64 (by omega) (by omega)
              obtain ⟨uy, huy⟩ : ∃ uy, uy = uY c x := ⟨_, rfl⟩
              have huyc : uy ≤ c := by rw [huy]; exact uY_le _ _
              have v3 : (D : Int).tmod (((c : Nat) : Int) + 1) = (uy : Int) := by
                rw [Int.tmod_eq_emod_of_nonneg (by omega), hDI, huy]
                unfold uY
                have h2 := Int.emod_nonneg (IntKind.u64.wrap x / 7) (show (((c : Nat) + 1 : Nat) : Int) ≠ 0 by omega)
                have e1 : (((c : Nat) : Int) + 1) = (((c : Nat) + 1 : Nat) : Int) := by omega
                rw [e1]
                omega
              have v4 : IntKind.i64.wrap (uy : Int) = uy := wrap_i64 (by omega) (by omega)
              have v5 : IntKind.i64.wrap ((uy : Int) - 1) = (uy : Int) - 1 := wrap_i64 (by omega) (by omega)
              have hty : tY c x = (uy : Int) - 1 := by unfold tY; rw [← huy]
              have hc0 : ¬ (c : Nat) = 0 := by omega
              have hc1 : ¬ (((c : Nat) : Int) + 1 = 0) := by omega
              obtain ⟨kd, hkd⟩ : ∃ kd, kd = k / c := ⟨_, rfl⟩
              have hkdl : kd ≤ k := by rw [hkd]; exact Nat.div_le_self _ _
              obtain ⟨km, hkm⟩ : ∃ km, km = kd % c := ⟨_, rfl⟩
              have z1 : (k : Int).tdiv ((c : Nat) : Int) = (kd : Int) := by rw [Int.tdiv_eq_ediv_of_nonneg (by omega), hkd]; rfl
              have z2 : IntKind.i64.wrap (kd : Int) = kd := wrap_i64 (by omega) (by omega)
              have z3 : (kd : Int).tmod ((c : Nat) : Int) = (km : Int) := by rw [Int.tmod_eq_emod_of_nonneg (by omega), hkm]; rfl
              have hkml : km ≤ kd := by rw [hkm]; exact Nat.mod_le _ _
              have z4 : IntKind.i64.wrap (km : Int) = km := wrap_i64 (by omega) (by omega)
              have hnext : tRow c kind src row0 (k + 1) = if 0 < u3 ∧ 0 < u7 then tRow c kind src row0 k else if (uy : Int) - 1 = (km : Int) then tRow c kind src row0 k else (tRow c kind src row0 k).set k ((uy : Int) - 1) := by
                rw [tRow, hgx, hty, ← hu3, ← hu7, ← hkd, ← hkm]
              rw [← hu3] at hm3k
              rw [← hu7] at hm7x
              simp [h1, h2, h4, h7, h9, h10, h11, k2, k7, rowsA, intsA, hlt, hltI, hsrc', hltk, hltkI, hx', w1, w2, hltN, hltNI, hm3k, hm7x]
              by_cases hA : 0 < u3
              · by_cases hB : 0 < u7
                · rw [if_pos ⟨hA, hB⟩] at hnext
                  simp [h1, h2, h4, h7, h9, h10, h11, hA, hB, k2, k7, rowsA, intsA, hlt, hltI, hsrc', hltk, hltkI, hx', hm3k, hm7x]
                  exact turnA_self ⟨⟨k + 1, H2⟩, by simp only; omega, by simp only; omega, by simp only; omega, by simp only; rw [hnext]; exact hF2, by simp [h1, h2, h4, h7, h9, h10, h11, hwk]⟩
                · rw [if_neg (fun q => hB q.2)] at hnext
                  by_cases hyk : (uy : Int) - 1 = (km : Int)
                  · rw [if_pos hyk] at hnext
                    simp [h1, h2, h4, h7, h9, h10, h11, hA, hB, k2, k7, rowsA, intsA, hlt, hltI, hsrc', hltk, hltkI, hx', hm3k, hm7x, v1, v2, v3, v4, v5, w3, w4, hc0, hc1, z1, z2, z3, z4, hyk]
                    exact turnA_self ⟨⟨k + 1, H2⟩, by simp only; omega, by simp only; omega, by simp only; omega, by simp only; rw [hnext]; exact hF2, by simp [h1, h2, h4, h7, h9, h10, h11, hwk]⟩
                  · rw [if_neg hyk] at hnext
                    have hmap : ((tRow c kind src row0 k).map (AV.int .i64)).set k (AV.int .i64 ((uy : Int) - 1)) = (tRow c kind src row0 (k + 1)).map (AV.int .i64) := by rw [hnext, List.map_set]
                    have hF3 := hset2 (tRow c kind src row0 (k + 1)) (by rw [tRow_len, hrl0])
                    have hmI : (i : Int) < (T.length : Int) := by omega
                    have hk1 : k + 1 ≤ N := by omega
                    simp [h1, h2, h4, h7, h9, h10, h11, hA, hB, k2, k7, kN, krow, rowsA, intsA, hlt, hltI, hltm, hltmI, hsrc', hltk, hltkI, hltN, hltNI, hx', hm3k, hm7x, v1, v2, v3, v4, v5, w3, w4, hc0, hc1, z1, z2, z3, z4, hyk, hiT, hTi, htl, hk1]
                    exact turnA_self ⟨⟨k + 1, H2.upd bi (.cells ((tRow c kind src row0 (k + 1)).map (.int .i64)))⟩, by simp only; omega, by simp only; omega, by simp only; omega, hF3, by simp [h1, h2, h4, h7, h9, h10, h11, hwk, hmap]⟩
              · rw [if_neg (fun q => hA q.1)] at hnext
                have hB : True := trivial
                by_cases hyk : (uy : Int) - 1 = (km : Int)
                · rw [if_pos hyk] at hnext
                  simp [h1, h2, h4, h7, h9, h10, h11, hA, hB, k2, k7, rowsA, intsA, hlt, hltI, hsrc', hltk, hltkI, hx', hm3k, hm7x, v1, v2, v3, v4, v5, w3, w4, hc0, hc1, z1, z2, z3, z4, hyk]
                  exact turnA_self ⟨⟨k + 1, H2⟩, by simp only; omega, by simp only; omega, by simp only; omega, by simp only; rw [hnext]; exact hF2, by simp [h1, h2, h4, h7, h9, h10, h11, hwk]⟩
                · rw [if_neg hyk] at hnext
                  have hmap : ((tRow c kind src row0 k).map (AV.int .i64)).set k (AV.int .i64 ((uy : Int) - 1)) = (tRow c kind src row0 (k + 1)).map (AV.int .i64) := by rw [hnext, List.map_set]
                  have hF3 := hset2 (tRow c kind src row0 (k + 1)) (by rw [tRow_len, hrl0])
                  have hmI : (i : Int) < (T.length : Int) := by omega
                  have hk1 : k + 1 ≤ N := by omega
                  simp [h1, h2, h4, h7, h9, h10, h11, hA, hB, k2, k7, kN, krow, rowsA, intsA, hlt, hltI, hltm, hltmI, hsrc', hltk, hltkI, hltN, hltNI, hx', hm3k, hm7x, v1, v2, v3, v4, v5, w3, w4, hc0, hc1, z1, z2, z3, z4, hyk, hiT, hTi, htl, hk1]
                  exact turnA_self ⟨⟨k + 1, H2.upd bi (.cells ((tRow c kind src row0 (k + 1)).map (.int .i64)))⟩, by simp only; omega, by simp only; omega, by simp only; omega, hF3, by simp [h1, h2, h4, h7, h9, h10, h11, hwk, hmap]⟩
            · have hkN : k = N := by omega
              have hnr : tRows c kind next (dijR m c).next (i + 1) = (tRows c kind next (dijR m c).next i).set i (tRow c kind src row0 k) := by
                rw [tRows, hgn, hgr, ← hCC, ← hN, hkN, Nat.min_eq_right (by omega)]
              have hltNI : ¬ (k : Int) < (N : Int) := by omega
              simp [h1, h2, h4, h7, h9, h10, h11, k2, rowsA, intsA, hlt, hltI, hsrc', hltk, hltkI, w1, w2, hltN, hltNI]
              exact turnA_self ⟨⟨i + 1, H2⟩, by simp only; omega, by simp only; omega, by simp only; rw [hnr]; exact hF2, by simp only; omega, by simp [h1, h2, h4, h7, h9, h10, h11, hwi]⟩
          · have hkS : k = src.length := by omega
            have hnr : tRows c kind next (dijR m c).next (i + 1) = (tRows c kind next (dijR m c).next i).set i (tRow c kind src row0 k) := by
              rw [tRows, hgn, hgr, ← hCC, ← hN, hkS, Nat.min_eq_left (by omega)]
            have hltkI : ¬ (k : Int) < (src.length : Int) := by omega
            simp [h1, h2, h4, h7, h9, h10, h11, k2, rowsA, intsA, hlt, hltI, hsrc', hltk, hltkI]
            exact turnA_self ⟨⟨i + 1, H2⟩, by simp only; omega, by simp only; omega, by simp only; rw [hnr]; exact hF2, by simp only; omega, by simp [h1, h2, h4, h7, h9, h10, h11, hwi]⟩
        · have him : i = m := by omega
          have hltmI : ¬ (i : Int) < (m : Nat) := by omega
          have hav : (tameF mach next kind).av = .agg [.int .i64 (m : Nat), .int .i64 (c : Nat), rowsA (tRows c kind next (dijR m c).next i)] := by
            unfold tameF
            rw [hb']
            show AV.agg [.int .i64 ((m : Nat) : Int), .int .i64 ((c : Nat) : Int), rowsA (tRows c kind next (dijR m c).next (min next.length m))] = _
            rw [Nat.min_eq_right (by omega), ← him]
          simp [h1, h2, h4, h7, h9, h10, i2, i4, i7, hlt, hltI, hltm, hltmI, rowsA]
          refine hF.fin (by rw [tRows_len, hnl]) ?_
          rw [hav]
      · have hin2 : i = next.length := by omega
        have hltI : ¬ (i : Int) < (next.length : Int) := by omega
        have hav : (tameF mach next kind).av = .agg [.int .i64 (m : Nat), .int .i64 (c : Nat), rowsA (tRows c kind next (dijR m c).next i)] := by
          unfold tameF
          rw [hb']
          show AV.agg [.int .i64 ((m : Nat) : Int), .int .i64 ((c : Nat) : Int), rowsA (tRows c kind next (dijR m c).next (min next.length m))] = _
          rw [Nat.min_eq_left (by omega), ← hin2]
        simp [h1, h2, h4, h7, h9, h10, i2, i4, i7, hlt, hltI, rowsA]
        refine hF.fin (by rw [tRows_len, hnl]) ?_
        rw [hav]
  · have hb' : baseF mach kind = dijR m c := by rw [hb, if_neg (by omega)]
    simp [hk4, c6, d6]
    obtain ⟨H1, hH1⟩ : ∃ H1, H1 = H0.upd b7 (.cells [.int .i64 m, .int .i64 c, .osl bN 0 m 1]) := ⟨_, rfl⟩
    rw [← hH1]
    have F : TF H1 b2 b4 b7 bN bs [.int .i64 mach, .int .i64 col, rowsA next] [.int .i64 0, .int .i64 0, .nilsl] m c (dijR m c).next := by
      rw [hH1]
      exact ⟨by rw [AHeap.upd_ne d2.1]; exact p2, by rw [AHeap.upd_ne d4.1]; exact p4, AHeap.upd_same, hR.upd dN.1 dbs, n2.2, n4.2, dbs, n4.1⟩
    have B := hbm
    rw [hb'] at B
    have g7 := cellsAt_of F.e7
    have hm6 : (m : Nat) ≤ 5 := B.m6
    have hc4 : (c : Nat) ≤ 4 := B.c6
    have hc2 : 2 ≤ (c : Nat) := B.c2
    have hnl : (dijR m c).next.length = m := B.nl
    have hrlen : ∀ row ∈ (dijR m c).next, row.length = c * c * c := fun row hr => (B.rl row hr).1
    simp [g7]
    refine awp_loop_g (γ := TQ) (fun q t h => (q.i ≤ m) ∧ (TF q.H b2 b4 b7 bN bs [.int .i64 mach, .int .i64 col, rowsA next] [.int .i64 0, .int .i64 0, .nilsl] m c (tRows c kind next (dijR m c).next q.i)) ∧ (q.i ≤ next.length) ∧ t 1 = .int .i64 kind ∧ t 2 = .ptr b2 0 ∧ t 4 = .ptr b4 0 ∧ t 7 = .ptr b7 0 ∧ t 9 = .int .i64 (c : Nat) ∧ t 10 = .int .i64 q.i ∧ h = q.H) (fun q => m - q.i) (⟨0, H1⟩) (turnA_self (by simp [tRows, F])) ?_
    rintro q t h ⟨hi, hF, hin, h1, h2, h4, h7, h9, h10, rfl⟩
    obtain ⟨i, H⟩ := q
    simp only at h1 h2 h4 h7 h9 h10 hi hF hin
    have i2 := cellsAt_of hF.e2
    have i4 := cellsAt_of hF.e4
    have i7 := cellsAt_of hF.e7
    have iN := cellsAt_of hF.R.top
    by_cases hlt : i < next.length
    · have hltI : (i : Int) < (next.length : Int) := by omega
      by_cases hltm : i < m
      · have hltmI : (i : Int) < (m : Nat) := by omega
        have hwi : IntKind.i64.wrap ((i : Int) + 1) = (i : Int) + 1 := wrap_i64 (by omega) (by omega)
        obtain ⟨src, hsrc⟩ : ∃ src, src = next[i] := ⟨_, rfl⟩
        have hsrc' : next[i]'hlt = src := hsrc.symm
        have hsl : src.length ≤ 20000000000000 := by rw [hsrc]; exact hrl _ (List.getElem_mem hlt)
        have hgn : next.getD i [] = src := by simp [hlt, hsrc]
        have hir : i < (dijR m c).next.length := by omega
        have hitr : i < (tRows c kind next (dijR m c).next i).length := by rw [tRows_len]; exact hir
        have hgr : (dijR m c).next.getD i [] = (dijR m c).next[i] := by simp [hir]
        have hget : (tRows c kind next (dijR m c).next i)[i] = (dijR m c).next[i] := tRows_get i i hitr hir (Nat.le_refl _)
        have hrl0 : (dijR m c).next[i].length = c * c * c := hrlen _ (List.getElem_mem hir)
        obtain ⟨row0, hrow0⟩ : ∃ row0, row0 = (dijR m c).next[i] := ⟨_, rfl⟩
        rw [← hrow0] at hgr hget hrl0
        obtain ⟨N, hN⟩ : ∃ N, N = c * c * c := ⟨_, rfl⟩
        have hcc16 : (c : Nat) * c ≤ 4 * 4 := Nat.mul_le_mul hc4 hc4
        have hN64 : N ≤ 16 * 4 := by rw [hN]; exact Nat.mul_le_mul hcc16 hc4
        obtain ⟨CC, hCC⟩ : ∃ CC : Nat, CC = c * c := ⟨_, rfl⟩
        rw [← hCC] at hN hcc16
        have w1 : IntKind.i64.wrap (((c : Nat) : Int) * ((c : Nat) : Int)) = (CC : Int) := by rw [← Int.natCast_mul, ← hCC]; exact wrap_i64 (by omega) (by omega)
        have w2 : IntKind.i64.wrap ((CC : Int) * ((c : Nat) : Int)) = (N : Int) := by rw [← Int.natCast_mul, ← hN]; exact wrap_i64 (by omega) (by omega)
        rw [← hCC, ← hN] at hrl0
        have hself : (tRows c kind next (dijR m c).next i).set i row0 = tRows c kind next (dijR m c).next i := by rw [← hget]; exact List.set_getElem_self _
        simp [h1, h2, h4, h7, h9, h10, i2, i7, hlt, hltI, hltm, hltmI, rowsA]
        refine awp_loop_g (γ := TQ) (fun p t h => (p.i ≤ N) ∧ (p.i ≤ src.length) ∧ (TF p.H b2 b4 b7 bN bs [.int .i64 mach, .int .i64 col, rowsA next] [.int .i64 0, .int .i64 0, .nilsl] m c ((tRows c kind next (dijR m c).next i).set i (tRow c kind src row0 p.i))) ∧ t 1 = .int .i64 kind ∧ t 2 = .ptr b2 0 ∧ t 4 = .ptr b4 0 ∧ t 7 = .ptr b7 0 ∧ t 9 = .int .i64 (c : Nat) ∧ t 10 = .int .i64 i ∧ t 11 = .int .i64 p.i ∧ h = p.H) (fun p => N - p.i) (⟨0, H⟩) (turnA_self (by simp [h1, h2, h4, h7, h9, h10, tRow, hself, hF])) ?_
        rintro p t h ⟨hk, hks, hF2, h1, h2, h4, h7, h9, h10, h11, rfl⟩
        obtain ⟨k, H2⟩ := p
        simp only at h1 h2 h4 h7 h9 h10 h11 hk hks hF2
        have k2 := cellsAt_of hF2.e2
        have k7 := cellsAt_of hF2.e7
        have kN := cellsAt_of hF2.R.top
        have hlen2 : ((tRows c kind next (dijR m c).next i).set i (tRow c kind src row0 k)).length = m := by rw [List.length_set, tRows_len, hnl]
        have hbl : bs.length = m := by rw [hF2.R.len, hlen2]
        have hib : i < bs.length := by omega
        obtain ⟨bi, hbi⟩ : ∃ bi, bi = bs[i] := ⟨_, rfl⟩
        have hir2 : i < ((tRows c kind next (dijR m c).next i).set i (tRow c kind src row0 k)).length := by omega
        have hrowg : ((tRows c kind next (dijR m c).next i).set i (tRow c kind src row0 k))[i] = tRow c kind src row0 k := List.getElem_set_self _
        have kr := hF2.R.row i hib hir2
        rw [hrowg, ← hbi] at kr
        have krow := cellsAt_of kr
        have htl : (tRow c kind src row0 k).length = N := by rw [tRow_len, hrl0]
        have hset2 : ∀ row' : List Int, row'.length = N → TF (H2.upd bi (.cells (row'.map (.int .i64)))) b2 b4 b7 bN bs [.int .i64 mach, .int .i64 col, rowsA next] [.int .i64 0, .int .i64 0, .nilsl] m c ((tRows c kind next (dijR m c).next i).set i row') := by
          intro row' hr'
          have := hF2.set hib hir2 (row := row') (by rw [hrowg, htl, hr'])
          rw [List.set_set, ← hbi] at this
          exact this
        obtain ⟨T, hT⟩ : ∃ T, T = List.zipWith (fun (b : Nat) (r : List Int) => AV.osl b 0 r.length 1) bs ((tRows c kind next (dijR m c).next i).set i (tRow c kind src row0 k)) := ⟨_, rfl⟩
        have hTl : T.length = m := by rw [hT, List.length_zipWith, hbl, hlen2, Nat.min_self]
        have hiT : i < T.length := by omega
        have hTi : T[i] = .osl bi 0 N 1 := by
          subst hT
          rw [List.getElem_zipWith, ← hbi, hrowg, htl]
        rw [← hT] at kN
        by_cases hltk : k < src.length
        · have hltkI : (k : Int) < (src.length : Int) := by omega
          by_cases hltN : k < N
          · have hltNI : (k : Int) < (N : Int) := by omega
            have hwk : IntKind.i64.wrap ((k : Int) + 1) = (k : Int) + 1 := wrap_i64 (by omega) (by omega)
            obtain ⟨x, hx⟩ : ∃ x, x = src[k] := ⟨_, rfl⟩
            have hx' : src[k]'hltk = x := hx.symm
            have hgx : src.getD k 0 = x := by simp [hltk, hx]
            have hm3k : (IntKind.u64.wrap kind).tmod 3 = (uM kind 3 : Int) := uM_mod (n := 3) (by omega)
            have hm7x : (IntKind.u64.wrap x).tmod 7 = (uM x 7 : Int) := uM_mod (n := 7) (by omega)
            obtain ⟨u3, hu3⟩ : ∃ u3, u3 = uM kind 3 := ⟨_, rfl⟩
            obtain ⟨u7, hu7⟩ : ∃ u7, u7 = uM x 7 := ⟨_, rfl⟩
            obtain ⟨D, hD⟩ : ∃ D : Nat, D = (IntKind.u64.wrap x / 7).toNat := ⟨_, rfl⟩
            have hx0 := u64_nonneg x
            have hDI : (D : Int) = IntKind.u64.wrap x / 7 := by rw [hD]; omega
            have v1 : (IntKind.u64.wrap x).tdiv 7 = (D : Int) := by rw [Int.tdiv_eq_ediv_of_nonneg hx0.1, hDI]
            have v2 : IntKind.u64.wrap (D : Int) = D := wrap_u64 (by omega) (by omega)
            have w3 : IntKind.i64.wrap (((c : Nat) : Int) + 1) = ((c : Nat) : Int) + 1 := wrap_i64 (by omega) (by omega)
            have w4 : IntKind.u64.wrap (((c : Nat) : Int) + 1) = ((c : Nat) : Int) + 1 := wrap_u64 (by omega) (by omega)
            obtain ⟨uy, huy⟩ : ∃ uy, uy = uY c x := ⟨_, rfl⟩
            have huyc : uy ≤ c := by rw [huy]; exact uY_le _ _
            have v3 : (D : Int).tmod (((c : Nat) : Int) + 1) = (uy : Int) := by
              rw [Int.tmod_eq_emod_of_nonneg (by omega), hDI, huy]
              unfold uY
              have h2 := Int.emod_nonneg (IntKind.u64.wrap x / 7) (show (((c : Nat) + 1 : Nat) : Int) ≠ 0 by omega)
              have e1 : (((c : Nat) : Int) + 1) = (((c : Nat) + 1 : Nat) : Int) := by omega
              rw [e1]
              omega
            have v4 : IntKind.i64.wrap (uy : Int) = uy := wrap_i64 (by omega) (by omega)
            have v5 : IntKind.i64.wrap ((uy : Int) - 1) = (uy : Int) - 1 := wrap_i64 (by omega) (by omega)
            have hty : tY c x = (uy : Int) - 1 := by unfold tY; rw [← huy]
            have hc0 : ¬ (c : Nat) = 0 := by omega
            have hc1 : ¬ (((c : Nat) : Int) + 1 = 0) := by omega
            obtain ⟨kd, hkd⟩ : ∃ kd, kd = k / c := ⟨_, rfl⟩
            have hkdl : kd ≤ k := by rw [hkd]; exact Nat.div_le_self _ _
            obtain ⟨km, hkm⟩ : ∃ km, km = kd % c := ⟨_, rfl⟩
            have z1 : (k : Int).tdiv ((c : Nat) : Int) = (kd : Int) := by rw [Int.tdiv_eq_ediv_of_nonneg (by omega), hkd]; rfl
            have z2 : IntKind.i64.wrap (kd : Int) = kd := wrap_i64 (by omega) (by omega)
            have z3 : (kd : Int).tmod ((c : Nat) : Int) = (km : Int) := by rw [Int.tmod_eq_emod_of_nonneg (by omega), hkm]; rfl
            have hkml : km ≤ kd := by rw [hkm]; exact Nat.mod_le _ _
            have z4 : IntKind.i64.wrap (km : Int) = km := wrap_i64 (by omega) (by omega)
            have hnext : tRow c kind src row0 (k + 1) = if 0 < u3 ∧ 0 < u7 then tRow c kind src row0 k else if (uy : Int) - 1 = (km : Int) then tRow c kind src row0 k else (tRow c kind src row0 k).set k ((uy : Int) - 1) := by
              rw [tRow, hgx, hty, ← hu3, ← hu7, ← hkd, ← hkm]
            rw [← hu3] at hm3k
            rw [← hu7] at hm7x
            simp [h1, h2, h4, h7, h9, h10, h11, k2, k7, rowsA, intsA, hlt, hltI, hsrc', hltk, hltkI, hx', w1, w2, hltN, hltNI, hm3k, hm7x]
            by_cases hA : 0 < u3
            · by_cases hB : 0 < u7
              · rw [if_pos ⟨hA, hB⟩] at hnext
                simp [h1, h2, h4, h7, h9, h10, h11, hA, hB, k2, k7, rowsA, intsA, hlt, hltI, hsrc', hltk, hltkI, hx', hm3k, hm7x]
                exact turnA_self ⟨⟨k + 1, H2⟩, by simp only; omega, by simp only; omega, by simp only; omega, by simp only; rw [hnext]; exact hF2, by simp [h1, h2, h4, h7, h9, h10, h11, hwk]⟩
              · rw [if_neg (fun q => hB q.2)] at hnext
                by_cases hyk : (uy : Int) - 1 = (km : Int)
                · rw [if_pos hyk] at hnext
                  simp [h1, h2, h4, h7, h9, h10, h11, hA, hB, k2, k7, rowsA, intsA, hlt, hltI, hsrc', hltk, hltkI, hx', hm3k, hm7x, v1, v2, v3, v4, v5, w3, w4, hc0, hc1, z1, z2, z3, z4, hyk]
                  exact turnA_self ⟨⟨k + 1, H2⟩, by simp only; omega, by simp only; omega, by simp only; omega, by simp only; rw [hnext]; exact hF2, by simp [h1, h2, h4, h7, h9, h10, h11, hwk]⟩
                · rw [if_neg hyk] at hnext
                  have hmap : ((tRow c kind src row0 k).map (AV.int .i64)).set k (AV.int .i64 ((uy : Int) - 1)) = (tRow c kind src row0 (k + 1)).map (AV.int .i64) := by rw [hnext, List.map_set]
                  have hF3 := hset2 (tRow c kind src row0 (k + 1)) (by rw [tRow_len, hrl0])
                  have hmI : (i : Int) < (T.length : Int) := by omega
                  have hk1 : k + 1 ≤ N := by omega
                  simp [h1, h2, h4, h7, h9, h10, h11, hA, hB, k2, k7, kN, krow, rowsA, intsA, hlt, hltI, hltm, hltmI, hsrc', hltk, hltkI, hltN, hltNI, hx', hm3k, hm7x, v1, v2, v3, v4, v5, w3, w4, hc0, hc1, z1, z2, z3, z4, hyk, hiT, hTi, htl, hk1]
                  exact turnA_self ⟨⟨k + 1, H2.upd bi (.cells ((tRow c kind src row0 (k + 1)).map (.int .i64)))⟩, by simp only; omega, by simp only; omega, by simp only; omega, hF3, by simp [h1, h2, h4, h7, h9, h10, h11, hwk, hmap]⟩
            · rw [if_neg (fun q => hA q.1)] at hnext
              have hB : True := trivial
              by_cases hyk : (uy : Int) - 1 = (km : Int)
              · rw [if_pos hyk] at hnext
                simp [h1, h2, h4, h7, h9, h10, h11, hA, hB, k2, k7, rowsA, intsA, hlt, hltI, hsrc', hltk, hltkI, hx', hm3k, hm7x, v1, v2, v3, v4, v5, w3, w4, hc0, hc1, z1, z2, z3, z4, hyk]
                exact turnA_self ⟨⟨k + 1, H2⟩, by simp only; omega, by simp only; omega, by simp only; omega, by simp only; rw [hnext]; exact hF2, by simp [h1, h2, h4, h7, h9, h10, h11, hwk]⟩
              · rw [if_neg hyk] at hnext
                have hmap : ((tRow c kind src row0 k).map (AV.int .i64)).set k (AV.int .i64 ((uy : Int) - 1)) = (tRow c kind src row0 (k + 1)).map (AV.int .i64) := by rw [hnext, List.map_set]
                have hF3 := hset2 (tRow c kind src row0 (k + 1)) (by rw [tRow_len, hrl0])
                have hmI : (i : Int) < (T.length : Int) := by omega
                have hk1 : k + 1 ≤ N := by omega
                simp [h1, h2, h4, h7, h9, h10, h11, hA, hB, k2, k7, kN, krow, rowsA, intsA, hlt, hltI, hltm, hltmI, hsrc', hltk, hltkI, hltN, hltNI, hx', hm3k, hm7x, v1, v2, v3, v4, v5, w3, w4, hc0, hc1, z1, z2, z3, z4, hyk, hiT, hTi, htl, hk1]
                exact turnA_self ⟨⟨k + 1, H2.upd bi (.cells ((tRow c kind src row0 (k + 1)).map (.int .i64)))⟩, by simp only; omega, by simp only; omega, by simp only; omega, hF3, by simp [h1, h2, h4, h7, h9, h10, h11, hwk, hmap]⟩
          · have hkN : k = N := by omega
            have hnr : tRows c kind next (dijR m c).next (i + 1) = (tRows c kind next (dijR m c).next i).set i (tRow c kind src row0 k) := by
              rw [tRows, hgn, hgr, ← hCC, ← hN, hkN, Nat.min_eq_right (by omega)]
            have hltNI : ¬ (k : Int) < (N : Int) := by omega
            simp [h1, h2, h4, h7, h9, h10, h11, k2, rowsA, intsA, hlt, hltI, hsrc', hltk, hltkI, w1, w2, hltN, hltNI]
            exact turnA_self ⟨⟨i + 1, H2⟩, by simp only; omega, by simp only; omega, by simp only; rw [hnr]; exact hF2, by simp only; omega, by simp [h1, h2, h4, h7, h9, h10, h11, hwi]⟩
        · have hkS : k = src.length := by omega
          have hnr : tRows c kind next (dijR m c).next (i + 1) = (tRows c kind next (dijR m c).next i).set i (tRow c kind src row0 k) := by
            rw [tRows, hgn, hgr, ← hCC, ← hN, hkS, Nat.min_eq_left (by omega)]
          have hltkI : ¬ (k : Int) < (src.length : Int) := by omega
          simp [h1, h2, h4, h7, h9, h10, h11, k2, rowsA, intsA, hlt, hltI, hsrc', hltk, hltkI]
          exact turnA_self ⟨⟨i + 1, H2⟩, by simp only; omega, by simp only; omega, by simp only; rw [hnr]; exact hF2, by simp only; omega, by simp [h1, h2, h4, h7, h9, h10, h11, hwi]⟩
      · have him : i = m := by omega
        have hltmI : ¬ (i : Int) < (m : Nat) := by omega
        have hav : (tameF mach next kind).av = .agg [.int .i64 (m : Nat), .int .i64 (c : Nat), rowsA (tRows c kind next (dijR m c).next i)] := by
          unfold tameF
          rw [hb']
          show AV.agg [.int .i64 ((m : Nat) : Int), .int .i64 ((c : Nat) : Int), rowsA (tRows c kind next (dijR m c).next (min next.length m))] = _
          rw [Nat.min_eq_right (by omega), ← him]
        simp [h1, h2, h4, h7, h9, h10, i2, i4, i7, hlt, hltI, hltm, hltmI, rowsA]
        refine hF.fin (by rw [tRows_len, hnl]) ?_
        rw [hav]
    · have hin2 : i = next.length := by omega
      have hltI : ¬ (i : Int) < (next.length : Int) := by omega
      have hav : (tameF mach next kind).av = .agg [.int .i64 (m : Nat), .int .i64 (c : Nat), rowsA (tRows c kind next (dijR m c).next i)] := by
        unfold tameF
        rw [hb']
        show AV.agg [.int .i64 ((m : Nat) : Int), .int .i64 ((c : Nat) : Int), rowsA (tRows c kind next (dijR m c).next (min next.length m))] = _
        rw [Nat.min_eq_left (by omega), ← hin2]
      simp [h1, h2, h4, h7, h9, h10, i2, i4, i7, hlt, hltI, rowsA]
      refine hF.fin (by rw [tRows_len, hnl]) ?_
      rw [hav]
end Go.Proofs

end
