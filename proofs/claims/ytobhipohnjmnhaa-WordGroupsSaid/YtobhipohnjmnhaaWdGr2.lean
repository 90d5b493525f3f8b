/-
  Walk: word.Group.
-/
import Derived.Test.YtobhipohnjmnhaaWdMR
import Derived.Test.YtobhipohnjmnhaaWdPer
import Derived.Test.YtobhipohnjmnhaaWdWd
set_option linter.unusedSimpArgs false
set_option linter.unusedVariables false
set_option linter.unusedSectionVars false
namespace Go.Proofs
open Go Go.AH
set_option maxRecDepth 10000
set_option maxHeartbeats 4000000

theorem findSome_no {β : Type} {φ : Nat → Option β} : ∀ {N : Nat}, (∀ j, j < N → φ j = none) → (List.range N).findSome? φ = none := by
  intro N h
  rw [List.findSome?_eq_none_iff]
  intro j hj
  exact h j (by simpa using hj)
theorem findSome_hit {β : Type} {φ : Nat → Option β} {v : β} : ∀ {N i : Nat}, i < N → φ i = some v → (∀ j, j < i → φ j = none) → (List.range N).findSome? φ = some v
  | 0, i, h, _, _ => by omega
  | N + 1, i, h, e, b => by
    rw [List.range_succ, List.findSome?_append]
    by_cases hi : i < N
    · rw [findSome_hit hi e b]; rfl
    · obtain rfl : i = N := by omega
      rw [findSome_no b]; simp [e]
theorem findSome_is {β : Type} {φ : Nat → Option β} {v : β} {N : Nat} (e : (List.range N).findSome? φ = some v) : ∃ i, i < N ∧ φ i = some v := by
  obtain ⟨i, hi, h⟩ := List.exists_of_findSome?_eq_some e
  exact ⟨i, by simpa using hi, h⟩
theorem findSome_none {β : Type} {φ : Nat → Option β} {N : Nat} (e : (List.range N).findSome? φ = none) : ∀ i, i < N → φ i = none := fun i hi => by
  rw [List.findSome?_eq_none_iff] at e
  exact e i (by simpa using hi)
def grp1 (x : List UInt8) : Option Nat := (List.range x.length).findSome? fun s => if 1 < perF (actS x) x.length s then some (perF (actS x) x.length s) else none
def grpF (K : List (List UInt8)) : Option (Nat × Nat) := (List.range K.length).findSome? fun i => (grp1 (K.getD i [])).map fun p => (i, p)
def grpA (M : Dfa) : AV := match monF M with
  | none => .tup [.str [], .int .i64 0, .bool false, .int .i64 21]
  | some st => match grpF st.1 with
    | none => .tup [.str [], .int .i64 0, .bool false, .int .i64 0]
    | some (i, p) => .tup [.str ((classesF (rowsM M.k st.2)).getD i []), .int .i64 (p : Int), .bool true, .int .i64 0]
/-- What is known of a machine's maps. -/
structure MonOk (M : Dfa) (keys : List (List UInt8)) (rows : List (List Nat)) : Prop where
  wf : (rowsM M.k rows).wf
  rn : rows.length = keys.length
  le : keys.length ≤ 5000
  inv : ∀ x ∈ keys, (∀ s ∈ x, s.toNat < M.next.length) ∧ x.length = M.next.length
theorem mon_ok {M : Dfa} (hM : M.wf) (hn : M.next.length ≤ 128) {st : List (List UInt8) × List (List Nat)} (e : monF M = some st) : MonOk M st.1 st.2 := by
  have hmost := fun a st => rIter_most (behind M) 5000 (by omega) M.k (idS M.next.length) a st
  obtain ⟨h1, h2, h3⟩ := rows_wf (behind M) (5000 : Nat) M.k hM.k1 hM.k4 (idS M.next.length) 5000 (by omega) hmost st e
  have hinv := rIter_inv (behind M) (5000 : Nat) (fun x => (∀ s ∈ x, s.toNat < M.next.length) ∧ x.length = M.next.length) M.k (fun x i hx hi => ⟨behind_lt M hM hn x hx.1 i hi, by simp [behind, hx.2]⟩) (idS M.next.length) ⟨idS_lt _ hn, idS_len _⟩ (5000 + 1) st e
  exact ⟨h1, h2, h3, hinv.2⟩

theorem w_Group (m : Dfa) (hm : m.ok) : Pure Try.prog 44 [m.av] (grpA (leastF m)) := by
  refine pure_of (acalls_of Try.func44 rfl Try.call44 (by kernel_rfl) (by show _ ≤ (53 : Nat); simp) ?_)
  have c1 := w_check m hm
  have c2 := w_of m
  have c3 := w_leastP hm.wf
  have hW := (least_canon hm.wf).wf
  have hnl := least_n hm.wf
  have hn64 := hm.n64
  obtain ⟨M, hM⟩ : ∃ M, M = leastF m := ⟨_, rfl⟩
  rw [← hM] at c3 hW hnl ⊢
  clear hM
  have hn128 : M.next.length ≤ 128 := by omega
  have c4 := w_monoid M hW hn128
  simp only [Dfa.av] at c1 c2 c3 c4 ⊢
  simp
  intro b1 hb1
  simp
  refine c1.use ?_
  simp
  refine c2.use ?_
  refine c3.use ?_
  refine c4.use ?_
  unfold monA grpA
  cases hmon : monF M with
  | none =>
    simp
    exact finA_drop rfl
  | some st =>
    obtain ⟨keys, rows⟩ := st
    obtain ⟨o1, o2, o3, o4⟩ := mon_ok hW hn128 hmon
    simp only at o1 o2 o3 o4
    obtain ⟨ws, hws⟩ : ∃ ws, ws = classesF (rowsM M.k rows) := ⟨_, rfl⟩
    have hwl : ws.length = keys.length := by rw [hws, classes_len]; simp [rowsM, o2]
    simp only [← hws]
    simp [strsA, hwl]
    refine awp_loop_g (γ := Nat) (fun i t h => (i ≤ keys.length) ∧ (∀ j, j < i → grp1 (keys.getD j []) = none) ∧ t 8 = .sl keys.length (ws.map .str) ∧ t 29 = .sl keys.length (keys.map .str) ∧ t 30 = .int .i64 keys.length ∧ t 31 = .int .i64 i) (fun i => keys.length - i) (0) (turnA_self (by simp)) ?_
    rintro i t h ⟨hi, hb, h8, h29, h30, h31⟩
    by_cases hlt : i < keys.length
    · have hwi : IntKind.i64.wrap ((i : Int) + 1) = (i : Int) + 1 := wrap_i64 (by omega) (by omega)
      obtain ⟨x, hx⟩ : ∃ x, x = keys[i] := ⟨_, rfl⟩
      obtain ⟨x1, x2⟩ := o4 x (by rw [hx]; exact List.getElem_mem hlt)
      have hxd : keys.getD i [] = x := by rw [hx]; simp [hlt]
      simp [h8, h29, h30, h31, hlt, ← hx]
      refine awp_loop_g (γ := Nat) (fun s t h => (s ≤ x.length) ∧ (∀ j, j < s → ¬ 1 < perF (actS x) x.length j) ∧ t 8 = .sl keys.length (ws.map .str) ∧ t 10 = .int .i64 i ∧ t 11 = .str x ∧ t 29 = .sl keys.length (keys.map .str) ∧ t 30 = .int .i64 keys.length ∧ t 31 = .int .i64 i ∧ t 37 = .int .i64 x.length ∧ t 38 = .int .i64 s) (fun s => x.length - s) (0) (turnA_self (by simp [h8, h29, h30, h31])) ?_
      rintro s t h ⟨hs, hbs, h8, h10, h11, h29, h30, h31, h37, h38⟩
      by_cases hlts : s < x.length
      · have hws : IntKind.i64.wrap ((s : Int) + 1) = (s : Int) + 1 := wrap_i64 (by omega) (by omega)
        have cp := w_period x (fun b hb => by rw [x2]; exact x1 b hb) (by omega) s hlts
        simp [h8, h10, h11, h29, h30, h31, h37, h38, hlts]
        refine cp.use ?_
        by_cases hp : 1 < perF (actS x) x.length s
        · have hpI : (1 : Int) < (perF (actS x) x.length s : Int) := by omega
          have hiw : i < ws.length := by omega
          simp [h8, h10, h11, h29, h30, h31, h37, h38, hp, hpI, hiw, hlt]
          refine finA_drop ?_
          have hg1 : grp1 x = some (perF (actS x) x.length s) := findSome_hit hlts (by simp [hp]) fun j hj => by simp [hbs j hj]
          have hg : grpF keys = some (i, perF (actS x) x.length s) := findSome_hit hlt (by rw [hxd, hg1]; rfl) fun j hj => by rw [hb j hj]; rfl
          simp only [hg]
          simp [hiw]
        · have hpI : ¬ (1 : Int) < (perF (actS x) x.length s : Int) := by omega
          simp [h8, h10, h11, h29, h30, h31, h37, h38, hp, hpI]
          refine turnA_self ⟨s + 1, by omega, by omega, fun j hj => ?_, by simp [h8, h10, h11, h29, h30, h31, h37, h38, hws]⟩
          by_cases h : j = s
          · subst h; simpa using hp
          · simpa using hbs j (by omega)
      · obtain rfl : s = x.length := by omega
        simp [h8, h10, h11, h29, h30, h31, h37, h38]
        refine turnA_self ⟨i + 1, by omega, by omega, fun j hj => ?_, by simp [h8, h10, h11, h29, h30, h31, h37, h38, hwi]⟩
        by_cases h : j = i
        · subst h; show grp1 (keys[j]?.getD []) = none
          rw [← List.getD_eq_getElem?_getD, hxd]; exact findSome_no fun j hj => by simp [hbs j hj]
        · simpa using hb j (by omega)
    · obtain rfl : i = keys.length := by omega
      have hg : grpF keys = none := findSome_no fun j hj => by rw [hb j hj]; rfl
      simp [h8, h29, h30, h31]
      refine finA_drop ?_
      simp only [hg]
end Go.Proofs
