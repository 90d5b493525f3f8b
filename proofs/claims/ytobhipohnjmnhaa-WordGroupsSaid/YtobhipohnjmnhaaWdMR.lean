/-
  Walks: the reference's name and Monoid.
-/
import Derived.Test.YtobhipohnjmnhaaWdMon
import Derived.Test.YtobhipohnjmnhaaV8
set_option linter.unusedSimpArgs false
set_option linter.unusedVariables false
set_option linter.unusedSectionVars false
namespace Go.Proofs
open Go Go.AH
set_option maxRecDepth 10000
set_option maxHeartbeats 8000000

theorem bytesOf_map : ∀ l : List UInt8, bytesOf (l.map fun b => AV.int .u8 (b.toNat : Int)) = some l
  | [] => rfl
  | b :: l => by
    have := bytesOf_map l
    simp only [List.map_cons, bytesOf, this, byteOf]
    simp
def nameF (r : List Nat) : List UInt8 := r.map UInt8.ofNat
def nmL (r : List Nat) (i : Nat) : List UInt8 := (List.range r.length).map fun j => if j < i then UInt8.ofNat (r.getD j 0) else 0
@[simp] theorem nmL_len (r : List Nat) (i : Nat) : (nmL r i).length = r.length := by simp [nmL]
theorem nmL_zero (r : List Nat) : nmL r 0 = List.replicate r.length 0 := by
  refine List.ext_getElem (by simp) fun q h1 h2 => ?_
  simp [nmL]
theorem nmL_get (r : List Nat) (i j : Nat) (h : j < (nmL r i).length) : (nmL r i)[j] = if j < i then UInt8.ofNat (r.getD j 0) else 0 := by simp [nmL]
theorem nmL_succ (r : List Nat) (i : Nat) : nmL r (i + 1) = (nmL r i).set i (UInt8.ofNat (r.getD i 0)) := by
  refine List.ext_getElem (by simp) fun q h1 h2 => ?_
  rw [List.getElem_set, nmL_get]
  by_cases e : i = q
  · subst e; simp
  · rw [if_neg e, nmL_get]
    have : q < i + 1 ↔ q < i := by omega
    simp [this]
theorem nmL_end (r : List Nat) : nmL r r.length = nameF r := by
  refine List.ext_getElem (by simp [nameF]) fun q h1 h2 => ?_
  have : q < r.length := by simpa using h1
  simp [nmL, nameF, this]
def u8s (l : List UInt8) : List AV := l.map fun b => AV.int .u8 (b.toNat : Int)
theorem w_refname (r : List Nat) (hl : r.length ≤ 1000000) : Pure Try.prog 87 [natsA r] (.str (nameF r)) := by
  refine pure_of (acalls_of Try.func87 rfl Try.call87 (by kernel_rfl) (by show _ ≤ (24 : Nat); simp) ?_)
  simp [natsA]
  refine ⟨by omega, ?_⟩
  intro b3 hb3
  simp
  have hz : List.replicate r.length (AV.int .u8 0) = u8s (nmL r 0) := by rw [nmL_zero]; simp [u8s]
  rw [hz]
  refine awp_loop_g (γ := Nat) (fun i t h => (i ≤ r.length) ∧ t 0 = natsA r ∧ t 3 = .osl b3 0 r.length 1 ∧ t 4 = .int .i64 i ∧ h = AHeap.empty.upd b3 (.cells (u8s (nmL r i)))) (fun i => r.length - i) (0) (turnA_self (by simp [natsA])) ?_
  rintro i t h ⟨hi, h0, h3, h4, rfl⟩
  by_cases hlt : i < r.length
  · have hwi : IntKind.i64.wrap ((i : Int) + 1) = (i : Int) + 1 := wrap_i64 (by omega) (by omega)
    have hu8 : u8s (nmL r (i + 1)) = (u8s (nmL r i)).set i (.int .u8 (IntKind.u8.wrap (r[i] : Int))) := by
      rw [nmL_succ]
      unfold u8s
      rw [List.map_set]
      have : ((UInt8.ofNat (r.getD i 0)).toNat : Int) = IntKind.u8.wrap (r[i] : Int) := by
        simp [IntKind.wrap, IntKind.bits, IntKind.signed, hlt]
      rw [this]
    have hul : (u8s (nmL r i)).length = r.length := by simp [u8s]
    simp [h0, h3, h4, hlt, natsA, hul]
    exact ⟨by omega, turnA_self ⟨i + 1, by omega, by omega, by simp [h0, h3, h4, hwi, natsA, hu8]⟩⟩
  · obtain rfl : i = r.length := by omega
    have := bytesOf_map (nmL r r.length)
    have hb : bytesOf (u8s (nmL r r.length)) = some (nameF r) := by rw [nmL_end]; exact bytesOf_map _
    have hul : (u8s (nmL r r.length)).length = r.length := by simp [u8s]
    have hco : cellsOfSlice (AHeap.empty.upd b3 (.cells (u8s (nmL r r.length)))) (.osl b3 0 r.length 1) = some (u8s (nmL r r.length)) := by
      simp [cellsOfSlice, hul, List.take_of_length_le]
    simp [h0, h3, h4, natsA, hco, hb]
    exact finA_drop rfl

/-! ### Monoid -/
def truE (D : List (List UInt8)) : List (AV × AV) := D.map fun x => (AV.str x, AV.bool true)
theorem mapGet_tru (x : List UInt8) : ∀ D : List (List UInt8), mapGet (truE D) (.str x) = if x ∈ D then some (.bool true) else none
  | [] => by simp [truE, mapGet]
  | y :: D => by
    have ih := mapGet_tru x D
    simp only [truE, List.map_cons, mapGet] at ih ⊢
    by_cases e : y = x
    · subst e; simp
    · have e1 : ¬ (AV.str y) = (.str x) := fun h => e (AV.str.inj h)
      have e2 : ¬ x = y := fun h => e h.symm
      rw [if_neg e1, ih]; simp [e2]
theorem mapSet_tru (x : List UInt8) : ∀ D : List (List UInt8), x ∉ D → mapSet (truE D) (.str x) (.bool true) = truE (D ++ [x])
  | [], _ => by simp [truE, mapSet]
  | y :: D, h => by
    have ih := mapSet_tru x D (fun q => h (by simp [q]))
    simp only [truE, List.map_cons, mapSet, List.cons_append] at ih ⊢
    have e1 : ¬ (AV.str y) = (.str x) := fun q => h (by simp [AV.str.inj q])
    rw [if_neg e1, ih]
def natL (x : List UInt8) : List Nat := x.map (·.toNat)
@[simp] theorem natL_len (x : List UInt8) : (natL x).length = x.length := by simp [natL]
theorem name_natL (x : List UInt8) : nameF (natL x) = x := by simp [nameF, natL, Function.comp_def]
theorem natL_idS {n : Nat} (hn : n ≤ 128) : natL (idS n) = List.range n := by
  refine List.ext_getElem (by simp [idS]) fun j h1 h2 => ?_
  have : j < n := by simpa using h2
  simp [natL, idS]; omega
structure MoG where
  a : Nat
  keys : List (List UInt8)
  bp : Nat
structure MoR where
  i : Nat
  ks : List (List UInt8)
  bp : Nat
structure MoS where
  s : Nat
  o : Option Nat
/-- What the reference's Monoid answers. -/
def rmonA (m : Dfa) : AV := match monF m with | some st => .tup [nrowsA (st.1.map natL), .bool true] | none => .tup [.nilsl, .bool false]

theorem w_refMonoid (m : Dfa) (hm : m.ok) : Pure Try.prog 45 [m.av] (rmonA (leastF m)) := by
  refine pure_of (acalls_of Try.func45 rfl Try.call45 (by kernel_rfl) (by show _ ≤ (84 : Nat); simp) ?_)
  have c1 := w_refLeast m hm.wf
  have hW := (least_canon hm.wf).wf
  have hnl := least_n hm.wf
  have hn64 := hm.n64
  obtain ⟨M, hM⟩ : ∃ M, M = leastF m := ⟨_, rfl⟩
  rw [← hM] at c1 hW hnl ⊢
  clear hM
  have hn1 := hW.n1; have hk4 := hW.k4
  have hn128 : M.next.length ≤ 128 := by omega
  have hmost := fun a st => rIter_most (behind M) 5000 (by omega) M.k (idS M.next.length) a st
  obtain ⟨F, F1, F2, F3, F4, F5⟩ := rIter_all (behind M) (5000 : Nat) M.k (idS M.next.length) 5000 hmost
  have hmF : rIter (behind M) (5000 : Nat) M.k (idS M.next.length) (5000 + 1) = monF M := rfl
  rw [hmF] at F5
  have hinv : ∀ x i, (∀ s ∈ x, s.toNat < M.next.length) ∧ x.length = M.next.length → i < M.k → (∀ s ∈ behind M x i, s.toNat < M.next.length) ∧ (behind M x i).length = M.next.length := fun x i hx hi => ⟨behind_lt M hW hn128 x hx.1 i hi, by simp [behind, hx.2]⟩
  have hst0 : (∀ s ∈ idS M.next.length, s.toNat < M.next.length) ∧ (idS M.next.length).length = M.next.length := ⟨idS_lt _ hn128, idS_len _⟩
  simp only [Dfa.av] at c1 ⊢
  simp
  intro b1 hb1
  simp
  refine c1.use ?_
  simp [nrowsA]
  intro b4 hb4
  simp at hb4
  simp [hb4]
  refine awp_loop_t (γ := MoS) (fun g t h => (g.s ≤ M.next.length) ∧ (∀ off, cellsAt h b4 off = some (([.int .i64 (M.k : Int), .sl M.next.length (M.next.map natsA), boolsA M.good] : List AV).drop off)) ∧ (∀ b, g.o = some b → cellsAt h b 0 = some ((List.range g.s).map fun x : Nat => AV.int .i64 (x : Int)) ∧ ¬ b = b4 ∧ ¬ b4 = b) ∧ (g.o = none → g.s = 0) ∧ t 4 = .ptr b4 0 ∧ t 5 = ownV g.o g.s 1 ∧ t 6 = .int .i64 g.s) (fun g => M.next.length - g.s) (⟨0, none⟩) (turnA_self (by simp [hb4])) ?_
  rintro g t h ⟨hs, hc4, ho, hno, h4, h5, h6⟩
  obtain ⟨s, o⟩ := g
  simp only at h4 h5 h6 hs ho hno
  by_cases hlt : s < M.next.length
  · have hws : IntKind.i64.wrap ((s : Int) + 1) = (s : Int) + 1 := wrap_i64 (by omega) (by omega)
    simp [h4, h5, h6, hc4, hlt]
    rcases o with _ | o
    · obtain rfl := hno rfl
      intro c1 hd1
      have x1 := ne_fresh (hc4 0) hd1
      simp [h4, h5, h6]
      intro c2 hd2
      simp at hd2
      have x2 := ne_fresh (hc4 0) hd2.2.2
      simp [h4, h5, h6]
      refine turnA_self ⟨⟨1, some c2⟩, by simp only; omega, by simp only; omega, ?_, fun b hb => ?_, by simp, by simp [h4, h5, h6, hws]⟩
      · intro off; simp [x1, x2, hc4]
      · cases hb; simp [x2]
    · obtain ⟨q1, q2, q3⟩ := ho o rfl
      intro c1 hd1
      have x1 := ne_fresh (hc4 0) hd1; have y1 := ne_fresh q1 hd1
      simp [h4, h5, h6, y1, q1]
      refine ⟨by omega, ?_⟩
      intro c2 hd2
      simp [y1] at hd2
      have x2 : ¬ c2 = b4 ∧ ¬ b4 = c2 := by
        rcases hd2.2.2 with rfl | q
        · exact ⟨q2, q3⟩
        · exact (ne_fresh (hc4 0) q).symm
      simp [h4, h5, h6]
      refine turnA_self ⟨⟨s + 1, some c2⟩, by simp only; omega, by simp only; omega, ?_, fun b hb => ?_, by simp, by simp [h4, h5, h6, hws]⟩
      · intro off; simp [x1, x2, q2, q3, hc4]
      · cases hb; simp [x2, List.range_succ]
  · obtain rfl : s = M.next.length := by omega
    rcases o with _ | o
    · have := hno rfl; omega
    obtain ⟨q1, q2, q3⟩ := ho o rfl
    have nm0 := w_refname (List.range M.next.length) (by simp; omega)
    have e0 : nameF (List.range M.next.length) = idS M.next.length := rfl
    rw [e0] at nm0
    simp [h4, h5, h6, hc4]
    refine turnA_row 5 o (n := M.next.length) (es := 1) (cs := (List.range M.next.length).map fun x : Nat => AV.int .i64 (x : Int)) h5 (by simp [q1]) (by simp) nats_frozen ?_
    have hrow0 : AV.sl M.next.length ((List.range M.next.length).map fun x : Nat => AV.int .i64 (x : Int)) = natsA (List.range M.next.length) := by simp [natsA]
    rw [hrow0]
    simp
    intro bp0 hbp0
    simp at hbp0
    simp [h4, h5, h6]
    intro bm hbm
    simp at hbm
    have gO : ∀ c, (c = o ∨ Fresh h c) → ¬ c = b4 ∧ ¬ b4 = c := by
      intro c hc
      rcases hc with rfl | q
      · exact ⟨q2, q3⟩
      · exact (ne_fresh (hc4 0) q).symm
    have xp0 := gO bp0 hbp0; have xm := gO bm hbm.2.2
    simp [h4, h5, h6]
    refine nm0.use ?_
    have htr : mapSet [] (AV.str (idS M.next.length)) (.bool true) = truE [idS M.next.length] := rfl
    simp [h4, h5, h6, hbm, htr]
    have hkk0 : [natsA (List.range M.next.length)] = [idS M.next.length].map fun x => natsA (natL x) := by simp [natL_idS hn128]
    rw [hkk0]
    clear hkk0
    refine awp_loop_g (γ := MoG) (fun g t h => (g.a ≤ F) ∧ (∃ rows, rIter (behind M) (5000 : Nat) M.k (idS M.next.length) g.a = some (g.keys, rows)) ∧ (∀ x ∈ g.keys, (∀ s ∈ x, s.toNat < M.next.length) ∧ x.length = M.next.length) ∧ (∀ off, cellsAt h b4 off = some (([.int .i64 (M.k : Int), .sl M.next.length (M.next.map natsA), boolsA M.good] : List AV).drop off)) ∧ (mapAt h (.map bm) = some (bm, .one .s, truE g.keys)) ∧ ((∀ off, cellsAt h g.bp off = some ((g.keys.map fun x => natsA (natL x)).drop off)) ∧ ¬ g.bp = b4 ∧ ¬ b4 = g.bp) ∧ t 4 = .ptr b4 0 ∧ t 7 = .osl g.bp 0 g.keys.length 1 ∧ t 8 = .map bm ∧ t 9 = .int .i64 g.a) (fun g => F - g.a) (⟨0, [idS M.next.length], bp0⟩) (turnA_self (by simp [h4, h5, h6, rIter, hc4, xp0, xm, hbm, q2, q3]; exact hst0)) ?_
    rintro g t h ⟨ha, hit, hInv, hc4, hmp, hkb, h4, h7, h8, h9⟩
    obtain ⟨a, keys, bp⟩ := g
    simp only at h4 h7 h8 h9 ha hit hInv hmp hkb
    obtain ⟨rows, hit⟩ := hit
    have hkl := hmost a _ hit
    simp only at hkl
    by_cases hlta : a < F
    · have hak := F3 a _ hlta hit
      simp only at hak
      have hwa : IntKind.i64.wrap ((a : Int) + 1) = (a : Int) + 1 := wrap_i64 (by omega) (by omega)
      obtain ⟨x, hx⟩ : ∃ x, x = keys[a] := ⟨_, rfl⟩
      have hxk : keys[a]? = some x := by rw [List.getElem?_eq_getElem hak, hx]
      obtain ⟨hx1, hx2⟩ := hInv x (by rw [hx]; exact List.getElem_mem hak)
      obtain ⟨hkb1, hkb2, hkb3⟩ := hkb
      simp [h4, h7, h8, h9, hak]
      refine awp_loop_g (γ := MoR) (fun g t h => (g.i ≤ M.k) ∧ (∃ row, rRow (behind M) (5000 : Nat) x keys g.i = some (g.ks, row)) ∧ (∀ x ∈ g.ks, (∀ s ∈ x, s.toNat < M.next.length) ∧ x.length = M.next.length) ∧ (∀ off, cellsAt h b4 off = some (([.int .i64 (M.k : Int), .sl M.next.length (M.next.map natsA), boolsA M.good] : List AV).drop off)) ∧ (mapAt h (.map bm) = some (bm, .one .s, truE g.ks)) ∧ ((∀ off, cellsAt h g.bp off = some ((g.ks.map fun x => natsA (natL x)).drop off)) ∧ ¬ g.bp = b4 ∧ ¬ b4 = g.bp) ∧ t 4 = .ptr b4 0 ∧ t 7 = .osl g.bp 0 g.ks.length 1 ∧ t 8 = .map bm ∧ t 9 = .int .i64 a ∧ t 10 = .int .i64 g.i) (fun g => M.k - g.i) (⟨0, keys, bp⟩) (turnA_self (by simp [h4, h7, h8, h9, rRow, hc4, hmp, hkb1, hkb2, hkb3]; exact hInv)) ?_
      rintro g t h ⟨hi, hrow, hInv, hc4, hmp, hkb, h4, h7, h8, h9, h10⟩
      clear hkb1 hkb2 hkb3
      obtain ⟨i, ks, bp⟩ := g
      simp only at h4 h7 h8 h9 h10 hi hrow hInv hmp hkb
      obtain ⟨row, hrow⟩ := hrow
      obtain ⟨hkb1, hkb2, hkb3⟩ := hkb
      obtain ⟨E, hE⟩ := rRow_pre _ _ _ _ i _ hrow
      simp only at hE
      have hka : a < ks.length := by rw [hE]; simp; omega
      have hkx : ks[a] = x := by
        have : ks[a]? = some x := by rw [hE, List.getElem?_append_left hak]; exact hxk
        rw [List.getElem?_eq_getElem hka] at this
        exact Option.some.inj this
      have hkl2 := rRow_most (behind M) 5000 x keys hkl i _ hrow
      simp only at hkl2
      by_cases hlti : i < M.k
      · have hwi : IntKind.i64.wrap ((i : Int) + 1) = (i : Int) + 1 := wrap_i64 (by omega) (by omega)
        obtain ⟨y, hy⟩ : ∃ y, y = behind M x i := ⟨_, rfl⟩
        obtain ⟨hy1, hy2⟩ := hinv x i ⟨hx1, hx2⟩ hlti
        rw [← hy] at hy1 hy2
        simp [h4, h7, h8, h9, h10, hc4, hlti]
        refine awp_loop_t (γ := MoS) (fun g t h => (g.s ≤ M.next.length) ∧ (∀ off, cellsAt h b4 off = some (([.int .i64 (M.k : Int), .sl M.next.length (M.next.map natsA), boolsA M.good] : List AV).drop off)) ∧ (mapAt h (.map bm) = some (bm, .one .s, truE ks)) ∧ (∀ off, cellsAt h bp off = some ((ks.map fun x => natsA (natL x)).drop off)) ∧ (∀ b, g.o = some b → cellsAt h b 0 = some (((natL y).take g.s).map fun x : Nat => AV.int .i64 (x : Int)) ∧ ¬ b = b4 ∧ ¬ b4 = b ∧ ¬ b = bp ∧ ¬ bp = b ∧ ¬ b = bm ∧ ¬ bm = b) ∧ (g.o = none → g.s = 0) ∧ t 4 = .ptr b4 0 ∧ t 7 = .osl bp 0 ks.length 1 ∧ t 8 = .map bm ∧ t 9 = .int .i64 a ∧ t 10 = .int .i64 i ∧ t 11 = ownV g.o g.s 1 ∧ t 12 = .int .i64 g.s) (fun g => M.next.length - g.s) (⟨0, none⟩) (turnA_self (by simp [h4, h7, h8, h9, h10, hc4, hmp, hkb1])) ?_
        rintro g t h ⟨hs, hc4, hmp, hkb1, ho, hno, h4, h7, h8, h9, h10, h11, h12⟩
        obtain ⟨s, o⟩ := g
        simp only at h4 h7 h8 h9 h10 h11 h12 hs ho hno
        have hmk := ne_cells_map (hkb1 0) hmp
        by_cases hlts : s < M.next.length
        · have hws : IntKind.i64.wrap ((s : Int) + 1) = (s : Int) + 1 := wrap_i64 (by omega) (by omega)
          have hsx : s < x.length := by omega
          have hv := hx1 _ (List.getElem_mem hsx)
          have hrl : M.next[x[s].toNat].length = M.k := hW.rl _ (List.getElem_mem hv)
          have hsy : s < (natL y).length := by simp; omega
          have hvv : M.next[x[s].toNat][i]'(by omega) < M.next.length := hW.lt _ (List.getElem_mem hv) _ (List.getElem_mem _)
          have hyv : (natL y)[s] = M.next[x[s].toNat][i]'(by omega) := by
            simp only [natL, hy, behind, List.getElem_map]
            rw [UInt8.toNat_ofNat']
            have : (M.next.getD x[s].toNat []).getD i 0 = M.next[x[s].toNat][i]'(by omega) := by simp [hv, hrl, hlti]
            rw [this]; omega
          have htk : (natL y).take (s + 1) = (natL y).take s ++ [M.next[x[s].toNat][i]'(by omega)] := by rw [List.take_succ_eq_append_getElem hsy, hyv]
          have hnl : ∀ hv, (natL x)[s]'hv = x[s].toNat := fun hv => by simp [natL]
          simp [h4, h7, h8, h9, h10, h11, h12, hc4, hlts]
          refine awp_draw_text (by kernel_rfl) [] [] (by kernel_rfl) (by kernel_rfl) (by simp) ?_
          simp [h4, h7, h8, h9, h10, h11, h12, hc4, hkb1, hka, hkx, natsA, hsx, hv, hrl, hlti, hnl]
          obtain ⟨v, hvdef⟩ : ∃ v, v = M.next[x[s].toNat][i]'(by omega) := ⟨_, rfl⟩
          rw [← hvdef] at htk hvv ⊢
          have htk2 := congrArg (List.map fun x : Nat => AV.int .i64 (x : Int)) htk
          simp only [List.map_append, List.map_take, List.map_cons, List.map_nil] at htk2
          rcases o with _ | o
          · obtain rfl := hno rfl
            intro c1 hd1
            have x1 := ne_fresh (hc4 0) hd1; have y1 := ne_fresh (hkb1 0) hd1; have z1 := ne_map hmp hd1
            simp [h4, h7, h8, h9, h10, h11, h12]
            intro c2 hd2
            simp at hd2
            have x2 := ne_fresh (hc4 0) hd2.2.2; have y2 := ne_fresh (hkb1 0) hd2.2.2; have z2 := ne_map hmp hd2.2.2
            simp [h4, h7, h8, h9, h10, h11, h12]
            refine turnA_self ⟨⟨1, some c2⟩, by simp only; omega, by simp only; omega, ?_, ?_, ?_, fun b hb => ?_, by simp, by simp [h4, h7, h8, h9, h10, h11, h12, hws]⟩
            · intro off; simp [x1, x2, hc4]
            · simp [z1, z2, hmp]
            · intro off; simp [y1, y2, hkb1]
            · cases hb; simp [x2, y2, z2]; simpa using htk2.symm
          · obtain ⟨q1, q2, q3, q4, q5, q6, q7⟩ := ho o rfl
            have hmin : min s y.length = s := by omega
            intro c1 hd1
            have x1 := ne_fresh (hc4 0) hd1; have y1 := ne_fresh (hkb1 0) hd1; have z1 := ne_map hmp hd1; have w1 := ne_fresh q1 hd1
            simp [h4, h7, h8, h9, h10, h11, h12, w1, q1, hmin]
            refine ⟨by omega, ?_⟩
            intro c2 hd2
            simp [w1] at hd2
            have hq : (¬ c2 = b4 ∧ ¬ b4 = c2) ∧ (¬ c2 = bp ∧ ¬ bp = c2) ∧ (¬ c2 = bm ∧ ¬ bm = c2) := by
              rcases hd2.2.2 with rfl | q
              · exact ⟨⟨q2, q3⟩, ⟨q4, q5⟩, ⟨q6, q7⟩⟩
              · exact ⟨(ne_fresh (hc4 0) q).symm, (ne_fresh (hkb1 0) q).symm, (ne_map hmp q).symm⟩
            obtain ⟨x2, y2, z2⟩ := hq
            simp [h4, h7, h8, h9, h10, h11, h12]
            refine turnA_self ⟨⟨s + 1, some c2⟩, by simp only; omega, by simp only; omega, ?_, ?_, ?_, fun b hb => ?_, by simp, by simp [h4, h7, h8, h9, h10, h11, h12, hws]⟩
            · intro off; simp [x1, x2, q2, q3, hc4]
            · simp [z1, z2, q6, q7, hmp]
            · intro off; simp [y1, y2, q4, q5, hkb1]
            · cases hb; simp [x2, y2, z2]; exact htk2.symm
        · obtain rfl : s = M.next.length := by omega
          rcases o with _ | o
          · have := hno rfl; omega
          obtain ⟨q1, q2, q3, q4, q5, q6, q7⟩ := ho o rfl
          have htl : (natL y).take M.next.length = natL y := List.take_of_length_le (by simp; omega)
          rw [htl] at q1
          have nmy := w_refname (natL y) (by simp; omega)
          rw [name_natL] at nmy
          simp [h4, h7, h8, h9, h10, h11, h12, hc4]
          refine turnA_row 11 o (n := M.next.length) (es := 1) (cs := (natL y).map fun x : Nat => AV.int .i64 (x : Int)) h11 (by simp [q1]) (by simp; omega) nats_frozen ?_
          have hrowy : AV.sl M.next.length ((natL y).map fun x : Nat => AV.int .i64 (x : Int)) = natsA (natL y) := by simp [natsA, hy2]
          rw [hrowy]
          simp [h4, h7, h8, h9, h10, h11, h12]
          refine nmy.use ?_
          have hget := mapGet_tru y ks
          have hset := mapSet_tru y ks
          have hsucc := rRow_succ (behind M) (5000 : Nat) x keys i
          rw [hrow] at hsucc
          simp only [rStep, Option.bind_some, ← hy] at hsucc
          by_cases hmem : y ∈ ks
          · rw [if_pos hmem] at hget hsucc
            simp [h4, h7, h8, h9, h10, h11, h12, hmp, hget, q6, q7]
            refine turnA_self ⟨⟨i + 1, ks, bp⟩, by simp only; omega, by simp only; omega, ⟨_, hsucc⟩, hInv, ?_, ?_, ⟨?_, hkb2, hkb3⟩, by simp [h4, h7, h8, h9, h10, h11, h12, hwi]⟩
            · intro off; simp [q2, q3, hc4]
            · simp [q6, q7, hmp]
            · intro off; simp [q4, q5, hkb1]
          · rw [if_neg hmem] at hget hsucc
            have hset := hset hmem
            simp [h4, h7, h8, h9, h10, h11, h12, hmp, hget, q6, q7]
            refine nmy.use ?_
            simp [h4, h7, h8, h9, h10, h11, h12, hmp, hget, q6, q7, hset]
            intro c1 hd1
            simp [hmk] at hd1
            have gX : ∀ c, (c = o ∨ Fresh h c) → (¬ c = b4 ∧ ¬ b4 = c) ∧ (¬ c = bp ∧ ¬ bp = c) ∧ (¬ c = bm ∧ ¬ bm = c) := by
              intro c hc
              rcases hc with rfl | q
              · exact ⟨⟨q2, q3⟩, ⟨q4, q5⟩, ⟨q6, q7⟩⟩
              · exact ⟨(ne_fresh (hc4 0) q).symm, (ne_fresh (hkb1 0) q).symm, (ne_map hmp q).symm⟩
            obtain ⟨x1, y1, z1⟩ := gX c1 hd1.2.2
            have hmk4 := ne_cells_map (hc4 0) hmp
            have hkb10 := hkb1 0
            simp only [List.drop_zero] at hkb10
            simp [h4, h7, h8, h9, h10, h11, h12, y1, q4, q5, hmk, hkb10]
            refine ⟨by omega, ?_⟩
            intro bp2 hd2
            simp [hmk, y1, q4, q5] at hd2
            have hq : (¬ bp2 = b4 ∧ ¬ b4 = bp2) ∧ (¬ bp2 = bm ∧ ¬ bm = bp2) := by
              have hor : bp2 = bp ∨ bp2 = o ∨ Fresh h bp2 := hd2.2.2.2.2
              rcases hor with rfl | q
              · exact ⟨⟨hkb2, hkb3⟩, hmk⟩
              · obtain ⟨x2, _, z2⟩ := gX bp2 q
                exact ⟨x2, z2⟩
            obtain ⟨x2, z2⟩ := hq
            have hw5 : IntKind.i64.wrap ((ks.length : Int) + 1) = (ks.length : Int) + 1 := wrap_i64 (by omega) (by omega)
            by_cases hfull : (ks.length : Int) = (5000 : Nat)
            · rw [if_pos hfull] at hsucc
              have h5 : (5000 : Int) < (ks.length : Int) + 1 := by omega
              have h5' : 5000 < ks.length + 1 := by omega
              have hnone : rIter (behind M) (5000 : Nat) M.k (idS M.next.length) F = none := by
                refine rIter_none _ _ _ _ (a + 1) F ?_ (by omega)
                simp only [rIter, hit, Option.bind_some, hxk]
                rw [rRow_none _ _ x keys (i + 1) M.k hsucc (by omega)]; rfl
              simp [h4, h7, h8, h9, h10, h11, h12, hw5, h5, h5']
              refine finA_drop ?_
              unfold rmonA
              rw [← F5, hnone]
            · rw [if_neg hfull] at hsucc
              have h5 : ¬ (5000 : Int) < (ks.length : Int) + 1 := by omega
              have h5' : ¬ 5000 < ks.length + 1 := by omega
              simp [h4, h7, h8, h9, h10, h11, h12, hw5, h5, h5']
              refine turnA_self ⟨⟨i + 1, ks ++ [y], bp2⟩, by simp only; omega, by simp only; omega, ⟨_, hsucc⟩, ?_, ?_, ?_, ⟨?_, x2.1, x2.2⟩, by simp [h4, h7, h8, h9, h10, h11, h12, hwi]⟩
              · intro z hz
                rcases List.mem_append.1 hz with q | q
                · exact hInv z q
                · rw [List.mem_singleton.1 q]; exact ⟨hy1, hy2⟩
              · intro off; simp [x1, x2, q2, q3, hkb2, hkb3, hc4, hmk4]
              · simp [z1, z2, hmk]
              · intro off; simp
      · obtain rfl : i = M.k := by omega
        simp [h4, h7, h8, h9, h10, hc4]
        have hit1 : rIter (behind M) (5000 : Nat) M.k (idS M.next.length) (a + 1) = some (ks, rows ++ [row]) := by
          simp only [rIter, hit, Option.bind_some, hxk, hrow, Option.map_some]
        exact turnA_self ⟨⟨a + 1, ks, bp⟩, by simp only; omega, by simp only; omega, ⟨_, hit1⟩, hInv, hc4, hmp, ⟨hkb1, hkb2, hkb3⟩, by simp [h4, h7, h8, h9, h10, hwa]⟩
    · obtain rfl : a = F := by omega
      have hE := F4 _ hit
      simp only at hE
      obtain ⟨hkb1, hkb2, hkb3⟩ := hkb
      have hkb10 := hkb1 0
      simp only [List.drop_zero] at hkb10
      simp [h4, h7, h8, h9, hE]
      refine finA_all 3 ?_
      unfold rmonA
      rw [← F5, hit]
      simp [nrowsA, hkb10, hE, List.take_of_length_le]
end Go.Proofs
