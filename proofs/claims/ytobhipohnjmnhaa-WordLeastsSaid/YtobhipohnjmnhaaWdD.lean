/-
  Walks: whether anything is an automaton (valid ones).
-/
import Derived.Test.YtobhipohnjmnhaaWdW
set_option linter.unusedSimpArgs false
set_option linter.unusedVariables false
set_option linter.unusedSectionVars false
namespace Go.Proofs
open Go Go.AH
set_option maxRecDepth 10000
set_option maxHeartbeats 4000000
set_option linter.unusedSectionVars false

/-- The first place whose number passes the test, or -1. -/
def idxI (l : List Int) (p : Int → Bool) : Int := if l.any p then ((l.findIdx p : Nat) : Int) else -1
def anyI (l : List Int) (p : Int → Bool) : Bool := l.any p
theorem w_indexFunc (l : List Int) (hl : l.length ≤ 4611686018427387904) (f : AV) (p : Int → Bool) (H : AHeap) (hp : ∀ x ∈ l, ACallV Try.prog f [.int .i64 x] H fun r h' => r = .bool (p x) ∧ h' = H) :
    ACalls Try.prog 137 [intsA l, f] H fun r h' => r = .int .i64 (idxI l p) ∧ h' = H := by
  refine acalls_of Try.func137 rfl Try.call137 (by kernel_rfl) (by show _ ≤ (19 : Nat); simp) ?_
  simp [intsA]
  refine awp_loop_g (γ := Nat) (fun k t h => (k ≤ l.length) ∧ (∀ i (hi : i < l.length), i < k → p l[i] = false) ∧ t 0 = .sl l.length (l.map (.int .i64)) ∧ t 1 = f ∧ t 7 = .int .i64 l.length ∧ t 8 = .int .i64 k ∧ h = H) (fun k => l.length - k) (0) (turnA_self (by simp)) ?_
  rintro k t h ⟨hk, hno, h0, h1, h7, h8, rfl⟩
  by_cases hlt : k < l.length
  · have hw : IntKind.i64.wrap ((k : Int) + 1) = (k : Int) + 1 := wrap_i64 (by omega) (by omega)
    simp [h0, h1, h7, h8, hlt]
    refine (hp _ (List.getElem_mem hlt)).use ?_
    simp
    refine condA_case ?_ ?_
    · intro hpk
      have h1' : l.any p = true := List.any_eq_true.2 ⟨l[k], List.getElem_mem hlt, hpk⟩
      have h2 : l.findIdx p = k := by
        rw [List.findIdx_eq hlt]
        exact ⟨hpk, fun i hi => hno i (by omega) hi⟩
      simp [h0, h1, h7, h8]
      refine finA_self ⟨?_, rfl⟩
      rw [idxI, if_pos h1', h2]
    · intro hpk
      simp [h0, h1, h7, h8]
      exact turnA_self ⟨k + 1, by omega, by omega, fun i hi hik => by
        by_cases e : i = k
        · subst e; exact hpk
        · exact hno i hi (by omega), by simp [h0, h1, h7, h8, hw]⟩
  · obtain rfl : k = l.length := by omega
    have h1' : l.any p = false := by
      rw [List.any_eq_false]
      intro x hx
      obtain ⟨i, hi, rfl⟩ := List.mem_iff_getElem.1 hx
      simp [hno i hi hi]
    simp [h0, h1, h7, h8]
    refine finA_self ⟨?_, rfl⟩
    rw [idxI, h1']; rfl
theorem w_containsFunc (l : List Int) (hl : l.length ≤ 4611686018427387904) (f : AV) (p : Int → Bool) (H : AHeap) (hp : ∀ x ∈ l, ACallV Try.prog f [.int .i64 x] H fun r h' => r = .bool (p x) ∧ h' = H) :
    ACalls Try.prog 111 [intsA l, f] H fun r h' => r = .bool (anyI l p) ∧ h' = H := by
  refine acalls_of Try.func111 rfl Try.call111 (by kernel_rfl) (by show _ ≤ (9 : Nat); simp) ?_
  simp
  refine (w_indexFunc l hl f p H hp).use ?_
  simp
  refine finA_self ⟨?_, rfl⟩
  by_cases h : l.any p = true
  · rw [idxI, anyI, if_pos h, h]; simp
  · have h' : l.any p = false := by simpa using h
    rw [idxI, anyI, if_neg h, h']; simp
theorem w_check1 (n : Int) (H : AHeap) (b : Nat) (e : cellsAt H b 0 = some [.int .i64 n]) (x : Int) : ACallV Try.prog (.fn (.func 112) [] [.ptr b 0]) [.int .i64 x] H fun r h' => r = .bool (decide (x < 0) || decide (n ≤ x)) ∧ h' = H := by
  rw [ACallV_func]
  refine acalls_of Try.func112 rfl Try.call112 (by kernel_rfl) (by show _ ≤ (11 : Nat); simp) ?_
  by_cases h : x < 0
  · simp [h]
    exact finA_self ⟨rfl, rfl⟩
  · simp [h, e]
    exact finA_self ⟨rfl, rfl⟩

/-- A valid automaton, its numbers as they come. -/
def Dfa.raw (m : Dfa) : RAuto := ⟨m.k, m.next.map fun r => r.map fun x : Nat => (x : Int), m.good⟩
theorem natsA_ints (l : List Nat) : natsA l = intsA (l.map fun x : Nat => (x : Int)) := by simp [natsA, intsA, Function.comp_def]
theorem nrowsA_rows (l : List (List Nat)) : nrowsA l = rowsA (l.map fun r => r.map fun x : Nat => (x : Int)) := by
  simp only [nrowsA, rowsA, List.length_map, List.map_map]
  congr 1
  apply List.map_congr_left
  intro r _
  exact natsA_ints r

theorem w_check (m : Dfa) (hm : m.ok) : Pure Try.prog 65 [m.av] (.int .i64 0) := by
  refine pure_of (acalls_of Try.func65 rfl Try.call65 (by kernel_rfl) (by show _ ≤ (48 : Nat); simp) ?_)
  obtain ⟨k1, k4, n1, n64, gl, rl, lt⟩ := hm
  have e1 : ¬ (m.k : Int) < 1 := by omega
  have e2 : ¬ (4 : Int) < m.k := by omega
  have e3 : ¬ (m.next.length : Int) < 1 := by omega
  have e4 : ¬ (64 : Int) < m.next.length := by omega
  have e1n : ¬ m.k = 0 := by omega
  have e3n : ¬ m.next = [] := by intro e; rw [e] at n1; simp at n1
  simp [Dfa.av, nrowsA, boolsA]
  intro b1 hb1
  simp [e1, e2, e1n]
  intro b3 hb3
  simp at hb3
  simp [hb3, e3, e4, gl, e3n]
  refine awp_loop_g (γ := Nat) (fun s t h => (s ≤ m.next.length) ∧ t 1 = .ptr b1 0 ∧ t 3 = .ptr b3 0 ∧ t 31 = .sl m.next.length (m.next.map natsA) ∧ t 32 = .int .i64 m.next.length ∧ t 33 = .int .i64 s ∧ h = (AHeap.empty.upd b1 (.cells [.int .i64 m.k, .sl m.next.length (m.next.map natsA), .sl m.next.length (m.good.map .bool)])).upd b3 (.cells [.int .i64 m.next.length])) (fun s => m.next.length - s) (0) (turnA_self (by simp)) ?_
  rintro s t h ⟨hs, h1, h3, h31, h32, h33, rfl⟩
  by_cases hlt : s < m.next.length
  · have hrow : m.next[s].length = m.k := rl _ (List.getElem_mem hlt)
    have hw : IntKind.i64.wrap ((s : Int) + 1) = (s : Int) + 1 := wrap_i64 (by omega) (by omega)
    have hany : ((m.next[s]'hlt).map fun x : Nat => (x : Int)).any (fun x => decide (x < 0) || decide ((m.next.length : Int) ≤ x)) = false := by
      rw [List.any_eq_false]
      intro x hx
      obtain ⟨y, hy, rfl⟩ := List.mem_map.1 hx
      have := lt _ (List.getElem_mem hlt) y hy
      simp; omega
    have c1 := w_containsFunc ((m.next[s]'hlt).map fun x : Nat => (x : Int)) (by simp; omega) (.fn (.func 112) [] [.ptr b3 0]) _ ((AHeap.empty.upd b1 (.cells [.int .i64 m.k, .sl m.next.length (m.next.map natsA), .sl m.next.length (m.good.map .bool)])).upd b3 (.cells [.int .i64 m.next.length]))
      (fun x _ => w_check1 m.next.length _ b3 (by simp) x)
    rw [anyI, hany] at c1
    have hnI : natsA (m.next[s]'hlt) = intsA ((m.next[s]'hlt).map fun x : Nat => (x : Int)) := natsA_ints _
    simp [h1, h3, h31, h32, h33, hlt, hb3, hnI, intsA, hrow]
    simp [intsA, hrow] at c1
    refine c1.use ?_
    simp [h1, h3, h31, h32, h33]
    exact turnA_self ⟨s + 1, by omega, by omega, by simp [h1, h3, h31, h32, h33, hw]⟩
  · obtain rfl : s = m.next.length := by omega
    simp [h1, h3, h31, h32, h33]
    exact finA_self rfl

theorem w_Least (m : Dfa) (hm : m.ok) : Pure Try.prog 23 [m.av] (if 64 < (leastF m).next.length then .tup [noAuto, .int .i64 21] else .tup [(leastF m).av, .int .i64 0]) := by
  refine pure_of (acalls_of Try.func23 rfl Try.call23 (by kernel_rfl) (by show _ ≤ (16 : Nat); simp) ?_)
  have c1 := w_check m hm
  have c2 := w_of m
  have c3 := w_keptT m hm.wf
  have hn := least_n hm.wf
  have h64 : ¬ 64 < (leastF m).next.length := by have := hm.n64; omega
  rw [if_neg h64] at c3 ⊢
  simp only [Dfa.av] at c1 c2 c3 ⊢
  simp
  intro b1 hb1
  simp
  intro b2 hb2
  simp at hb2
  simp [hb2]
  refine c1.use ?_
  simp [hb2]
  refine c2.use ?_
  simp [hb2]
  refine c3.use ?_
  simp [hb2]
  exact finA_self rfl

theorem w_First (m : Dfa) (hm : m.ok) : Pure Try.prog 25 [m.av] (match firstF (leastF m) with | some w => .tup [.str w, .int .i64 0] | none => .tup [.str [], .int .i64 4]) := by
  refine pure_of (acalls_of Try.func25 rfl Try.call25 (by kernel_rfl) (by show _ ≤ (22 : Nat); simp) ?_)
  have c1 := w_check m hm
  have c2 := w_of m
  have c3 := w_leastP hm.wf
  have c4 := w_first (leastF m) (least_wf hm.wf)
  simp only [Dfa.av] at c1 c2 c3 c4 ⊢
  simp
  intro b1 hb1
  simp
  refine c1.use ?_
  simp
  refine c2.use ?_
  simp
  refine c3.use ?_
  simp
  refine c4.use ?_
  cases firstF (leastF m) with
  | none =>
    simp
    exact finA_self rfl
  | some w =>
    simp
    exact finA_self rfl

theorem runIt_all {α : Type} : ∀ (L : List α) (g : List α), runIt (fun (g : List α) x => g ++ [x]) (fun _ => true) g L = g ++ L
  | [], g => by simp [runIt]
  | x :: L, g => by simp [runIt, runIt_all L]
/-- The first words, state by state. -/
def classesF (m : Dfa) : List (List UInt8) := (wItems m).map (·.2)
theorem w_Classes (m : Dfa) (hm : m.ok) : Pure Try.prog 24 [m.av] (.tup [strsA (classesF (leastF m)), .int .i64 0]) := by
  refine pure_of (acalls_of Try.func24 rfl Try.call24 (by kernel_rfl) (by show _ ≤ (24 : Nat); simp) ?_)
  have c1 := w_check m hm
  have c2 := w_of m
  have c3 := w_leastP hm.wf
  have hl := least_wf hm.wf
  have c4 := w_words (leastF m)
  simp only [Dfa.av] at c1 c2 c3 c4 ⊢
  simp
  intro b1 hb1
  simp
  refine c1.use ?_
  simp
  intro b5 hb5
  simp at hb5
  simp [hb5]
  refine c2.use ?_
  simp
  refine c3.use ?_
  simp
  refine c4.use ?_
  simp
  have hil : (wItems (leastF m)).length = (leastF m).next.length := by simp [wItems]
  refine awp_iter (L := wItems (leastF m)) (by simp) (it_words (leastF m) hl) (fun (g : List (Nat × List UInt8)) h => g.length ≤ (leastF m).next.length ∧ ∃ o : Option Nat, (o = none → g = []) ∧ (∀ b, o = some b → Fresh AHeap.empty b ∧ ¬ b = b1 ∧ ¬ b1 = b ∧ ¬ b = b5 ∧ ¬ b5 = b) ∧
      h = ((AHeap.empty.upd b1 (.cells [.int .i64 (m.k : Int), nrowsA m.next, boolsA m.good])).upd b5 (.cells [ownV o g.length 1])).updO o ((g.map (·.2)).map .str))
    (fun g x => g ++ [x]) (fun g => none) [] rfl ⟨by simp, none, by simp⟩ (by kernel_rfl) (by kernel_rfl) (by simp) (by intro a _; simp [itemA]) (.inl rfl) ?_ ?_ ?_
  · rintro l i g ⟨s, w⟩ h ha hgi _ ⟨hg, o, ho, hf, rfl⟩
    have hgl : g.length + 1 ≤ (leastF m).next.length := by
      have h1 := (List.getElem?_eq_some_iff.1 ha).1
      have h2 : ∀ (L : List (Nat × List UInt8)) (g : List (Nat × List UInt8)), (L.foldl (fun g x => g ++ [x]) g).length = g.length + L.length := by
        intro L
        induction L with
        | nil => intro g; simp
        | cons x L ih => intro g; rw [List.foldl_cons, ih]; simp; omega
      rw [hgi, h2]; simp; omega
    rcases o with _ | b
    · obtain rfl := ho rfl
      simp [itemA, putsA, hb5]
      intro b2 hb2
      simp at hb2
      simp [hb2, hb5]
      intro b3 hb3
      simp at hb3
      simp [hb2, hb3, hb5]
      refine ⟨((AHeap.empty.upd b1 (.cells [.int .i64 (m.k : Int), nrowsA m.next, boolsA m.good])).upd b5 (.cells [.osl b3 0 1 1])).upd b3 (.cells [.str w]), ?_, by have := hl.n1; omega, some b3, by simp [hb3]⟩
      refine Drop.both (Drop.new (Drop.refl _) ?_)
      simp [hb2]
    · have hf1 := hf b rfl
      simp [itemA, putsA, hb5, hf1]
      intro b2 hb2
      simp at hb2
      have hnm := hl.nmax
      simp [hb2, hb5, hf1]
      refine ⟨by omega, ?_⟩
      intro b3 hb3
      simp at hb3
      simp [hb2, hb3, hb5, hf1]
      refine ⟨((AHeap.empty.upd b1 (.cells [.int .i64 (m.k : Int), nrowsA m.next, boolsA m.good])).upd b5 (.cells [.osl b3 0 (g.length + 1) 1])).upd b3 (.cells (g.map (AV.str ∘ (·.2)) ++ [.str w])), ?_, hgl, some b3, by simp [hb3]⟩
      refine Drop.both (Drop.new (Drop.refl _) ?_)
      simp [hb2]
  · intro g e he; cases he
  · rintro h' ⟨hg, o, ho, hf, rfl⟩
    have hgo : (fun g : List (Nat × List UInt8) => ((fun _ => (none : Option Exit)) g).isNone) = fun _ => true := rfl
    have hr := runIt_all (wItems (leastF m)) []
    simp only [List.nil_append] at hr
    simp only [hgo, hr] at hg ho hf ⊢
    rcases o with _ | b
    · have := ho rfl
      rw [this] at hil; simp at hil
      have := hl.n1
      rw [← hil] at this; simp at this
    · have hf1 := hf b rfl
      simp [hb5, hf1]
      refine finA_all 2 ?_
      simp [hf1, strsA, classesF, hil, List.take_of_length_le]
end Go.Proofs