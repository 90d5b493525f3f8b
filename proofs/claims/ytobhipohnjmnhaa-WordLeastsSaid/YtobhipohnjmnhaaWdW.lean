/-
  Walks: the first words of a machine's states.
-/
import Derived.Test.YtobhipohnjmnhaaWdC
set_option linter.unusedSimpArgs false
set_option linter.unusedVariables false
set_option linter.unusedSectionVars false
namespace Go.Proofs
open Go Go.AH
set_option maxRecDepth 10000
set_option maxHeartbeats 4000000
set_option linter.unusedSectionVars false

def wStep (row : List Nat) (s : Nat) (ws : List (List UInt8)) (i : Nat) : List (List UInt8) :=
  if 0 < row.getD i 0 ∧ ws.getD (row.getD i 0) [] = [] then ws.set (row.getD i 0) (ws.getD s [] ++ [ltr i]) else ws
def wRow (row : List Nat) (s : Nat) (ws : List (List UInt8)) (j : Nat) : List (List UInt8) := (List.range j).foldl (wStep row s) ws
def wIter (m : Dfa) (s : Nat) : List (List UInt8) := (List.range s).foldl (fun ws s => wRow (m.next.getD s []) s ws m.k) (List.replicate m.next.length [])
def wItems (m : Dfa) : List (Nat × List UInt8) := (List.range m.next.length).map fun s => (s, (wIter m s).getD s [])
theorem wRow_succ (row : List Nat) (s : Nat) (ws : List (List UInt8)) (j : Nat) : wRow row s ws (j + 1) = wStep row s (wRow row s ws j) j := by simp [wRow, List.range_succ]
theorem wIter_succ (m : Dfa) (s : Nat) : wIter m (s + 1) = wRow (m.next.getD s []) s (wIter m s) m.k := by simp [wIter, List.range_succ]
theorem wRow_len (row : List Nat) (s : Nat) (ws : List (List UInt8)) (j : Nat) : (wRow row s ws j).length = ws.length := by
  induction j with
  | zero => simp [wRow]
  | succ j ih => rw [wRow_succ, wStep]; split <;> simp [ih]
theorem wIter_len (m : Dfa) (s : Nat) : (wIter m s).length = m.next.length := by
  induction s with
  | zero => simp [wIter]
  | succ s ih => rw [wIter_succ, wRow_len, ih]
theorem wRow_short (row : List Nat) (s : Nat) (ws : List (List UInt8)) (j L : Nat) (h : ∀ w ∈ ws, w.length ≤ L) : ∀ w ∈ wRow row s ws j, w.length ≤ L + j := by
  induction j with
  | zero => simpa [wRow] using h
  | succ j ih =>
    rw [wRow_succ, wStep]
    intro w hw
    split at hw
    · rcases List.mem_or_eq_of_mem_set hw with q | q
      · have := ih w q; omega
      · subst q
        have : ((wRow row s ws j).getD s []).length ≤ L + j := by
          rw [List.getD_eq_getElem?_getD]
          cases e : (wRow row s ws j)[s]? with
          | none => simp
          | some x => exact ih x (List.mem_of_getElem? e)
        rw [List.length_append, List.length_singleton]; omega
    · have := ih w hw; omega
theorem wIter_short (m : Dfa) (s : Nat) : ∀ w ∈ wIter m s, w.length ≤ m.k * s := by
  induction s with
  | zero => simp [wIter]
  | succ s ih =>
    rw [wIter_succ]
    intro w hw
    have := wRow_short _ s _ m.k _ ih w hw
    rw [Nat.mul_succ]; exact this

def itemA (x : Nat × List UInt8) : List AV := [.int .i64 (x.1 : Int), .str x.2]

theorem it_wordsG (m : Dfa) (hm : m.wf) (good : AV) : Iter Try.prog (.fn (.func 123) [] [.fptr [.int .i64 (m.k : Int), nrowsA m.next, good]]) itemA (wItems m) true := by
  intro γ I step go y g0 h0 hg0 hI0 _ hy
  rw [ACallV_func]
  refine acalls_of Try.func123 rfl Try.call123 (by kernel_rfl) (by show _ ≤ (56 : Nat); simp) ?_
  have hn1 := hm.n1
  have hnm := hm.nmax
  have hk4 := hm.k4
  simp [nrowsA]
  refine ⟨by omega, ?_⟩
  intro b3 hb3
  simp
  refine awp_loop_g (γ := Nat × γ × AHeap) (fun g t h => (g.1 ≤ m.next.length) ∧ (go g.2.1 = true) ∧ (I g.2.1 g.2.2) ∧ (Fresh g.2.2 b3) ∧ (runIt step go g0 (wItems m) = runIt step go g.2.1 ((wItems m).drop g.1)) ∧ (g.2.1 = ((wItems m).take g.1).foldl step g0) ∧ t 0 = y ∧ t 3 = .osl b3 0 m.next.length 1 ∧ t 13 = .sl m.next.length (m.next.map natsA) ∧ t 14 = .int .i64 m.next.length ∧ t 15 = .int .i64 g.1 ∧ h = g.2.2.upd b3 (.cells ((wIter m g.1).map .str))) (fun g => m.next.length - g.1) ((0, g0, h0)) (turnA_self (by simp [wIter, hg0, hI0, runIt, hb3])) ?_
  rintro g t h ⟨hs, hgo, hI, hf, hrun, hgi, h0, h3, h13, h14, h15, rfl⟩
  obtain ⟨s, g, hi⟩ := g
  simp only at h0 h3 h13 h14 h15 hs hgo hI hf hrun hgi
  by_cases hlt : s < m.next.length
  · have hwl := wIter_len m s
    have hsw : s < (wIter m s).length := by omega
    have hil : (wItems m).length = m.next.length := by simp [wItems]
    have hitem : (wItems m)[s]'(by omega) = (s, (wIter m s)[s]) := by simp [wItems, hsw]
    have hrow : m.next[s].length = m.k := hm.rl _ (List.getElem_mem hlt)
    have hdrop : (wItems m).drop s = (s, (wIter m s)[s]) :: (wItems m).drop (s + 1) := by
      rw [List.drop_eq_getElem_cons (by omega), hitem]
    rw [hdrop] at hrun
    simp only [runIt] at hrun
    have hsi : s < (wItems m).length := by omega
    have htake : (wItems m).take (s + 1) = (wItems m).take s ++ [(s, (wIter m s)[s])] := by rw [← hitem, List.take_append_getElem]
    have hy1 := hy s g (s, (wIter m s)[s]) hi (by rw [List.getElem?_eq_getElem hsi, hitem]) hgi hgo hI
    simp [h0, h3, h13, h14, h15, hlt, hwl, natsA]
    refine ACallV.mono (ACallV.keep hy1 hf) ?_
    rintro r h' ⟨h1', rfl, hf1, rfl, hI1⟩
    by_cases hgo1 : go (step g (s, (wIter m s)[s])) = true
    · rw [if_pos hgo1] at hrun
      have hshort := wIter_short m s
      simp [h0, h3, h13, h14, h15, hgo1, hrow]
      refine awp_loop_g (γ := Nat) (fun j t h => (j ≤ m.k) ∧ t 0 = y ∧ t 3 = .osl b3 0 m.next.length 1 ∧ t 4 = .int .i64 s ∧ t 13 = .sl m.next.length (m.next.map natsA) ∧ t 14 = .int .i64 m.next.length ∧ t 15 = .int .i64 s ∧ t 28 = .sl m.k ((m.next[s]'hlt).map fun x : Nat => AV.int .i64 (x : Int)) ∧ t 29 = .int .i64 m.k ∧ t 30 = .int .i64 j ∧ h = h1'.upd b3 (.cells ((wRow (m.next[s]'hlt) s (wIter m s) j).map .str))) (fun j => m.k - j) (0) (turnA_self (by simp [h0, h3, h13, h14, h15, wRow])) ?_
      rintro j t h ⟨hj, h0, h3, h4, h13, h14, h15, h28, h29, h30, rfl⟩
      by_cases hltj : j < m.k
      · have hjr : j < m.next[s].length := by omega
        have hx : m.next[s][j] < m.next.length := hm.lt _ (List.getElem_mem hlt) _ (List.getElem_mem hjr)
        have hrl := wRow_len (m.next[s]'hlt) s (wIter m s) j
        have hrs := wRow_short (m.next[s]'hlt) s (wIter m s) j _ hshort
        have hsucc := wRow_succ (m.next[s]'hlt) s (wIter m s) j
        obtain ⟨ws, hws⟩ : ∃ ws, ws = wRow (m.next[s]'hlt) s (wIter m s) j := ⟨_, rfl⟩
        rw [← hws] at hrl hrs hsucc ⊢
        have hxw : m.next[s][j] < ws.length := by omega
        have hsw2 : s < ws.length := by omega
        have hrowj : (m.next[s]'hlt).getD j 0 = m.next[s][j] := by simp [hjr]
        have hwx : ws.getD m.next[s][j] [] = ws[m.next[s][j]] := by simp [hxw]
        have hwss : ws.getD s [] = ws[s] := by simp [hsw2]
        simp only [wStep, hrowj, hwx, hwss] at hsucc
        have hw : IntKind.i64.wrap ((j : Int) + 1) = (j : Int) + 1 := wrap_i64 (by omega) (by omega)
        by_cases hpos : 0 < m.next[s][j]
        · by_cases he : ws[m.next[s][j]] = []
          · rw [if_pos ⟨hpos, he⟩] at hsucc
            have hsl := hrs _ (List.getElem_mem hsw2)
            have hmul : m.k * s ≤ 4 * 1000000 := Nat.mul_le_mul hk4 (by omega)
            have hlen : ws[s].length + 1 < 4611686018427387904 := by omega
            simp [h0, h3, h4, h13, h14, h15, h28, h29, h30, hltj, hjr, hpos, hxw, hx, he]
            refine awp_draw_text (by kernel_rfl) [51] [(.fn (.func 124) [] [], [.int .i64 (j : Int)], .str [ltr j])] (by kernel_rfl) (by kernel_rfl) (by simp; exact PureV.of (w_letter j (by omega))) ?_
            simp [h0, h3, h4, h13, h14, h15, h28, h29, h30, hlt, hx, hsw2, hxw, hlen]
            exact ⟨by omega, turnA_self ⟨j + 1, by omega, by omega, by simp [h0, h3, h4, h13, h14, h15, h28, h29, h30, hw, hsucc, List.map_set, hxw]⟩⟩
          · rw [if_neg (fun q => he q.2)] at hsucc
            simp [h0, h3, h4, h13, h14, h15, h28, h29, h30, hltj, hjr, hpos, hxw, hx, he]
            exact turnA_self ⟨j + 1, by omega, by omega, by simp [h0, h3, h4, h13, h14, h15, h28, h29, h30, hw, hsucc]⟩
        · rw [if_neg (fun q => hpos q.1)] at hsucc
          simp [h0, h3, h4, h13, h14, h15, h28, h29, h30, hltj, hjr, hpos, hxw, hx]
          exact turnA_self ⟨j + 1, by omega, by omega, by simp [h0, h3, h4, h13, h14, h15, h28, h29, h30, hw, hsucc]⟩
      · obtain rfl : j = m.k := by omega
        have hw : IntKind.i64.wrap ((s : Int) + 1) = (s : Int) + 1 := wrap_i64 (by omega) (by omega)
        have hws := wIter_succ m s
        have hgr : m.next.getD s [] = m.next[s] := by simp [hlt]
        rw [hgr] at hws
        simp [h0, h3, h4, h13, h14, h15, h28, h29, h30]
        exact turnA_self ⟨s + 1, by omega, by omega, step g (s, (wIter m s)[s]), hgo1, h1', hI1, hf1, hrun, by rw [htake, List.foldl_append, ← hgi]; rfl, by simp [h0, h3, h4, h13, h14, h15, h28, h29, h30, hw, hws]⟩
    · rw [if_neg hgo1] at hrun
      have hgo2 : go (step g (s, (wIter m s)[s])) = false := by simpa using hgo1
      simp [h0, h3, h13, h14, h15, hgo2]
      refine finA_same h1' ((Drop.refl _).upd hf1) ?_
      rw [hrun]; exact hI1
  · obtain rfl : s = m.next.length := by omega
    have hil : (wItems m).drop m.next.length = [] := by apply List.drop_of_length_le; simp [wItems]
    rw [hil] at hrun
    simp [h0, h3, h13, h14, h15]
    refine finA_same hi ((Drop.refl _).upd hf) ?_
    rw [hrun]; exact hI

theorem it_words (m : Dfa) (hm : m.wf) : Iter Try.prog (.fn (.func 123) [] [.fptr [.int .i64 (m.k : Int), nrowsA m.next, boolsA m.good]]) itemA (wItems m) true := it_wordsG m hm (boolsA m.good)
theorem w_wordsN (m : Dfa) : Pure Try.prog 71 [.agg [.int .i64 (m.k : Int), nrowsA m.next, .nilsl]] (.fn (.func 123) [] [.fptr [.int .i64 (m.k : Int), nrowsA m.next, .nilsl]]) := by
  refine pure_of (acalls_of Try.func71 rfl Try.call71 (by kernel_rfl) (by show _ ≤ (4 : Nat); simp) ?_)
  simp
  intro b1 hb1
  simp
  refine finA_all 2 ?_
  simp
theorem w_words (m : Dfa) : Pure Try.prog 71 [m.av] (.fn (.func 123) [] [.fptr [.int .i64 (m.k : Int), nrowsA m.next, boolsA m.good]]) := by
  refine pure_of (acalls_of Try.func71 rfl Try.call71 (by kernel_rfl) (by show _ ≤ (4 : Nat); simp) ?_)
  simp [Dfa.av]
  intro b1 hb1
  simp
  refine finA_all 2 ?_
  simp

def firstF (m : Dfa) : Option (List UInt8) := ((wItems m).find? fun x => m.good.getD x.1 false).map (·.2)
theorem runIt_first (p : Nat × List UInt8 → Bool) : ∀ (L : List (Nat × List UInt8)), runIt (fun (_ : Option (List UInt8)) x => if p x then some x.2 else none) (fun g => g.isNone) none L = (L.find? p).map (·.2)
  | [] => rfl
  | x :: L => by
    simp only [runIt, List.find?_cons]
    cases h : p x with
    | true => simp
    | false => simp [runIt_first p L]

theorem w_first (m : Dfa) (hm : m.wf) : Pure Try.prog 72 [m.av] (match firstF m with | some w => .tup [.str w, .bool true] | none => .tup [.str [], .bool false]) := by
  refine pure_of (acalls_of Try.func72 rfl Try.call72 (by kernel_rfl) (by show _ ≤ (16 : Nat); simp) ?_)
  have c1 := w_words m
  simp only [Dfa.av] at c1 ⊢
  simp
  intro b1 hb1
  simp
  intro b2 hb2
  simp at hb2
  simp
  intro b3 hb3
  simp at hb3
  simp [hb2, hb3]
  refine c1.use ?_
  simp
  refine awp_iter (L := wItems m) (by simp) (it_words m hm) (fun (g : Option (List UInt8)) h => h = ((AHeap.empty.upd b1 (.cells [.int .i64 (m.k : Int), nrowsA m.next, boolsA m.good])).upd b2 (.cells [.str (g.getD [])])).upd b3 (.cells [.bool g.isSome]))
    (fun _ x => if m.good.getD x.1 false then some x.2 else none) (fun g => g.map fun _ => .ret) none rfl (by simp) (by kernel_rfl) (by kernel_rfl) (by simp) (by intro a _; simp [itemA]) (.inl rfl) ?_ ?_ ?_
  · rintro l i g ⟨s, w⟩ h ha0 _ hj rfl
    have ha := List.mem_of_getElem? ha0
    obtain rfl : g = none := by
      cases g with
      | none => rfl
      | some w => simp at hj
    have hs : s < m.good.length := by
      simp only [wItems, List.mem_map, List.mem_range] at ha
      obtain ⟨s', h1, h2⟩ := ha
      simp only [Prod.mk.injEq] at h2
      rw [hm.gl]; omega
    simp [itemA, putsA, hb2, hb3, boolsA, hs]
    refine condA_case ?_ ?_
    · intro hg
      simp [hb2, hb3, hg]
      exact Drop.refl _
    · intro hg
      simp [hb2, hb3, hg]
      exact Drop.refl _
  · intro g e he
    cases g with
    | none => simp at he
    | some w => simp at he; exact .inl he.symm
  · rintro h' rfl
    have hr := runIt_first (fun x => m.good.getD x.1 false) (wItems m)
    have hgo : (fun g : Option (List UInt8) => (g.map fun _ => Exit.ret).isNone) = fun g => g.isNone := by funext g; cases g <;> rfl
    rw [hgo, hr]
    have hF : ((wItems m).find? fun x => m.good.getD x.1 false).map (·.2) = firstF m := rfl
    rw [hF]
    cases firstF m with
    | none =>
      simp [hb2, hb3]
      exact finA_self rfl
    | some w =>
      simp [hb2, hb3]
      exact finA_self rfl
end Go.Proofs
