/-
  Texts: WdIsG WdIsG2.
-/
import Derived.Test.YtobhipohnjmnhaaV5
import Derived.Test.YtobhipohnjmnhaaWdGrL
import Derived.Test.YtobhipohnjmnhaaWdX9
import Derived.Test.YtobhipohnjmnhaaAhIn
set_option linter.unusedSimpArgs false
set_option linter.unusedVariables false
set_option linter.unusedSectionVars false
section
/-
  Walk told of the world: IsGroup, of a word of its letters and a number from 2 on, with the library's builder.
-/
namespace Go.Proofs
open Go Go.RowKit

theorem below_of {P : Program} {f : FuncId} {xs : List AH.AV} {r : AH.AV} (c : AH.Pure P f xs r) (W : World) {vs : List Value} (hr : AH.RepL W AH.AHeap.empty vs xs) :
    Calls P f vs.toArray W fun e W' => ∃ v, e = .returned v ∧ AH.Rep W' AH.AHeap.empty v r ∧ Below W.heap.size W W' :=
  (AH.calls_of c W hr).mono fun _ _ ⟨v, h1, h2, h3⟩ => ⟨v, h1, h2, h3.os, h3.tape, h3.output, h3.size, h3.block⟩
theorem rep_below {W W' : World} {v : Value} {a : AH.AV} (r : AH.Rep W AH.AHeap.empty v a) (x : Below W.heap.size W W') : AH.Rep W' AH.AHeap.empty v a := r.ext (ext_below x)
theorem rep_empty {W : World} {g : AH.AHeap} {v : Value} {a : AH.AV} (r : AH.Rep W g v a) : AH.Rep W AH.AHeap.empty v a := by
  induction r with
  | undef v => exact .undef v
  | bool b => exact .bool b
  | int k n => exact .int k n
  | str s => exact .str s
  | nilsl => exact .nilsl
  | sl0 a n c hn => exact .sl0 a n c hn
  | sl hn hb hlt hc ho _ ih => exact .sl hn rfl hlt hc ho ih
  | osl hn hs => exact .osl hn hs
  | nilptr => exact .nilptr
  | ptr b off => exact .ptr b off
  | fptr hb hlt hc ho _ ih => exact .fptr rfl hlt hc ho ih
  | nilmap => exact .nilmap
  | map b => exact .map b
  | fn h1 h2 _ _ ih1 ih2 => exact .fn h1 h2 ih1 ih2
  | nilfn => exact .nilfn
  | nilif => exact .nilif
  | iface _ ih => exact .iface ih
  | agg h1 ho _ ih => exact .agg h1 ho ih
  | tup h1 _ ih => exact .tup h1 ih
/-- A struct of three cells. -/
theorem rep_three {W : World} {g : AH.AHeap} {v : Value} {a b c : AH.AV} (r : AH.Rep W g v (.agg [a, b, c])) : ∃ x y z, v = .agg #[x, y, z] ∧ AH.Rep W g x a ∧ AH.Rep W g y b ∧ AH.Rep W g z c := by
  cases r with
  | agg h1 ho hr =>
    rename_i vs
    match vs, h1 with
    | [x, y, z], _ => exact ⟨x, y, z, rfl, hr 0 (by simp) (by simp), hr 1 (by simp) (by simp), hr 2 (by simp) (by simp)⟩
theorem rep_agg3 {W : World} {g : AH.AHeap} {x y z : Value} {a b c : AH.AV} (h : ∀ u ∈ [a, b, c], u.one = true) (r1 : AH.Rep W g x a) (r2 : AH.Rep W g y b) (r3 : AH.Rep W g z c) : AH.Rep W g (.agg #[x, y, z]) (.agg [a, b, c]) :=
  .agg (vs := [x, y, z]) rfl h fun i hi hj => by
    match i with
    | 0 => exact r1
    | 1 => exact r2
    | 2 => exact r3
theorem repL1 {W : World} {g : AH.AHeap} {v : Value} {a : AH.AV} (r : AH.Rep W g v a) : AH.RepL W g [v] [a] := .cons r .nil
theorem rep_string {W : World} {g : AH.AHeap} (l : List UInt8) : AH.Rep W g (.string ⟨l.toArray⟩) (.str l) := by
  have := AH.Rep.str (w := W) (h := g) ⟨l.toArray⟩
  simpa using this

theorem builder_below {T e : TypeId} {B b : Nat} {bs : List Value} {W W' : World} (h : Lib.IsBuilderF T e B b bs W) (hb : Below W.heap.size W W') : Lib.IsBuilderF T e B b bs W' := by
  have one : ∀ p, Lib.BuilderAtF T e B b p bs W → Lib.BuilderAtF T e B b p bs W' := fun p h => by
    have hlt := h.lt
    obtain ⟨hB, v, hv, hown, hne⟩ := h
    exact ⟨hB, v, (hb.block b hlt).trans hv, hown.kept (row := none) ⟨hb.os, hb.tape, hb.output, hb.size, fun k hk _ => hb.block k hk⟩ (Classical.em _), hne⟩
  exact h.elim (fun x => .inl (one _ x)) (fun x => .inr (one _ x))
theorem cell_alloc (w : World) (vs : Array Value) (e : TypeId) (i : Nat) : (w.alloc (Obj.cells vs e)).cell? ⟨w.heap.size, i, none⟩ = vs[i]? := by
  simp only [World.cell?]; rw [AH.alloc_at]; rfl
set_option maxHeartbeats 8000000 in
set_option maxRecDepth 1000000 in
theorem w_IsGroup_w (m : Dfa) (hm : m.ok) (w : List UInt8) (hw : w.length ≤ 5000) (hg : ∀ b ∈ w, badB m.k b = false) (p : Int) (hp : 2 ≤ p) (W : World) (v0 v1 v2 : Value)
    (r0 : AH.Rep W AH.AHeap.empty v0 (.int .i64 m.k)) (r1 : AH.Rep W AH.AHeap.empty v1 (nrowsA m.next)) (r2 : AH.Rep W AH.AHeap.empty v2 (AH.boolsA m.good)) :
    Calls Try.prog 48 #[.agg #[v0, v1, v2], .string ⟨w.toArray⟩, .int .i64 p] W fun e W' => e = .returned (.bool (grpB m w p)) ∧ Below W.heap.size W W' := by
  go_enter Try.func48, Try.ntmps48
  obtain rfl := r0.inv_int
  go_wp2_with (go_at_call 65; refine (below_of (w_check m hm) _ (vs := [.agg #[.int .i64 m.k, v1, v2]]) (repL1 (rep_agg3 (by simp) (rep_below (.int _ _) (Below.alloc (Below.refl _ _) (Nat.le_refl _) _)) (rep_below r1 (Below.alloc (Below.refl _ _) (Nat.le_refl _) _)) (rep_below r2 (Below.alloc (Below.refl _ _) (Nat.le_refl _) _))))).mono ?_)
  rintro e W1 ⟨v, rfl, rv, b1⟩
  obtain rfl := rv.inv_int
  have hb : W1.heap[W.heap.size]? = some (Obj.cells #[.int .i64 m.k, v1, v2] 28 (0, 0)) := by rw [b1.block _ (by simp)]; exact AH.alloc_at _ _
  have b1' : Below W.heap.size W W1 := (Below.alloc (Below.refl _ _) (Nat.le_refl _) _).trans (b1.mono (by simp))
  have hs1 : W.heap.size + 1 ≤ W1.heap.size := by have := b1.size; simpa using this
  generalize hz : W.heap.size = z at hb b1' hs1
  have d0 : W1.cell? ⟨z, 0, none⟩ = some (.int .i64 m.k) := by simp [World.cell?, hb]
  have d1 : W1.cell? ⟨z, 1, none⟩ = some v1 := by simp [World.cell?, hb]
  have d2 : W1.cell? ⟨z, 2, none⟩ = some v2 := by simp [World.cell?, hb]
  have cw := w_checkWord m.k hm.k4 [w] (by simp) (by simp; omega)
  rw [wordsErr_one, wordErr_ok hg hw] at cw
  simp only [List.map_cons, List.map_nil, List.length_singleton] at cw
  go_wp2_with (go_at_call 75; refine (below_of cw _ (vs := [.int .i64 m.k, .slice (some ⟨W1.heap.size, 0, none⟩) 1 1]) (.cons (.int _ _) (repL1 (.sl (vs := fun _ => .string ⟨w.toArray⟩) (by simp) rfl (by simp) (fun i hi => by
      obtain rfl : i = 0 := by simpa using hi
      exact cell_alloc _ _ _ _) (by simp) (fun i hi => by
      obtain rfl : i = 0 := by simpa using hi
      exact rep_string w))))).mono ?_)
  rintro e W2 ⟨v, rfl, rv, b2⟩
  obtain rfl := rv.inv_int
  have b12 : Below W1.heap.size W1 W2 := (Below.alloc (Below.refl _ _) (Nat.le_refl _) _).trans (b2.mono (by simp))
  have d0 : W2.cell? ⟨z, 0, none⟩ = some (.int .i64 m.k) := (b12.cell (p := ⟨z, 0, none⟩) (by simp; omega)).trans d0
  have d1 : W2.cell? ⟨z, 1, none⟩ = some v1 := (b12.cell (p := ⟨z, 1, none⟩) (by simp; omega)).trans d1
  have d2 : W2.cell? ⟨z, 2, none⟩ = some v2 := (b12.cell (p := ⟨z, 2, none⟩) (by simp; omega)).trans d2
  have b1'' : Below W.heap.size W W2 := by rw [hz]; exact b1'.trans (b12.mono (by omega))
  go_wp2_with (go_at_call 66; refine (below_of (w_of m) _ (vs := [.agg #[.int .i64 m.k, v1, v2]]) (repL1 (rep_agg3 (by simp) (.int _ _) (rep_below r1 b1'') (rep_below r2 b1'')))).mono ?_)
  rintro e W3 ⟨vo, rfl, ro, b3⟩
  go_wp2_with (go_at_call 67; refine (below_of (w_leastP hm.wf) _ (vs := [vo]) (repL1 ro)).mono ?_)
  rintro e W4 ⟨vl, rfl, rl, b4⟩
  have hW := (least_canon hm.wf).wf
  have hkM : ∃ q, q = m.k ∧ (leastF m).k = q := ⟨_, rfl, least_k hm.wf⟩
  have hnM := least_n hm.wf
  have hgy := @grpB_yes m w p (wordErr_ok hg hw) hp
  have hgn := @grpB_no m w p
  generalize leastF m = M at rl hW hkM hnM hgy hgn
  obtain ⟨u0, u1, u2, rfl, q0, q1, q2⟩ := rep_three rl
  obtain rfl := q0.inv_int
  have b34 : Below W.heap.size W W4 := by rw [hz] at b1'' ⊢; exact (b1''.trans (b3.mono (by have := b12.size; omega))).trans (b4.mono (by have := b3.size; have := b12.size; omega))
  have hn1 := hW.n1
  have h64 := hm.n64
  have h64M : M.next.length ≤ 64 := by omega
  have hne1 : M.next.map natsA ≠ [] := by intro e; have := congrArg List.length e; simp at this; rw [this] at hn1; simp at hn1
  have hne2 : M.good.map AH.AV.bool ≠ [] := by intro e; have := congrArg List.length e; have hgl := hW.gl; simp at this; rw [this] at hgl; simp at hgl; omega
  obtain ⟨bN, oN, cN, fN, rfl, hbN, hcN, hrN⟩ := rep_sl (l := M.next.map natsA) hne1 q1
  obtain ⟨bG, oG, cG, fG, rfl, hbG, hcG, hrG⟩ := rep_sl (l := M.good.map AH.AV.bool) hne2 q2
  have hlen4 := b34.size
  go_wp2_with (go_at_call 88; refine (below_of (w_auto M) _ (vs := [.agg #[.int .i64 M.k, .slice (some ⟨bN, oN, none⟩) M.next.length cN, .slice (some ⟨bG, oG, none⟩) M.good.length cG]]) (repL1 (rep_below rl (Below.alloc (Below.refl _ _) (Nat.le_refl _) _)))).mono ?_)
  rintro e W5 ⟨va, rfl, ra, b5⟩
  obtain ⟨x0, x1, x2, rfl, a0, a1, a2⟩ := rep_three ra
  obtain rfl := a0.inv_int
  obtain ⟨bP, oP, cP, fP, rfl, hbP, hcP, hrP⟩ := rep_sl (l := M.next.map natsA) hne1 a1
  obtain ⟨bQ, oQ, cQ, fQ, rfl, hbQ, hcQ, hrQ⟩ := rep_sl (l := M.good.map AH.AV.bool) hne2 a2
  have hM5 : W5.heap[W4.heap.size]? = some (Obj.cells #[.int .i64 M.k, .slice (some ⟨bN, oN, none⟩) M.next.length cN, .slice (some ⟨bG, oG, none⟩) M.good.length cG] 102 (0, 0)) := by rw [b5.block _ (by simp)]; exact AH.alloc_at _ _
  have hs5 : W4.heap.size + 1 ≤ W5.heap.size := by have := b5.size; simpa using this
  have b45 : Below W.heap.size W W5 := b34.trans (((Below.refl _ _).alloc hlen4 _).trans (b5.mono (by simp; omega)))
  have e1 : W5.cell? ⟨W4.heap.size, 1, none⟩ = some (.slice (some ⟨bN, oN, none⟩) M.next.length cN) := by simp [World.cell?, hM5]
  have hs5' : W4.heap.size < W5.heap.size := by omega
  go_wp2
  go_loopw [35] (fun i wr => ∃ k : Nat, k ≤ M.next.length ∧ i = .int .i64 k ∧ Lib.IsBuilderF 136 5 (W5.heap.size + 1) (W5.heap.size + 1) (Lib.byteCells ((List.range k).map fun s => UInt8.ofNat (goW M s (lts w)))) wr ∧ Below (W5.heap.size + 1) (W5.alloc (Obj.cells #[.int .i64 M.k, .slice (some ⟨bP, oP, none⟩) M.next.length cP, .slice (some ⟨bQ, oQ, none⟩) M.good.length cQ] 28)) wr) (fun i wr => M.next.length - (Lib.intOf i).toNat)
  case atStart =>
    refine ⟨0, Nat.zero_le _, rfl, ?_, (Below.refl _ _).alloc (by simp) _⟩
    have := Lib.IsBuilderF.of (Lib.fresh_isBuilder 136 5 (W5.alloc (Obj.cells #[.int .i64 M.k, .slice (some ⟨bP, oP, none⟩) M.next.length cP, .slice (some ⟨bQ, oQ, none⟩) M.good.length cQ] 28)))
    simpa [Lib.byteCells] using this
  case round =>
    obtain ⟨k, hk, rfl, hI, hbw⟩ := hrel
    have hb0 : wr.heap[W5.heap.size]? = some (Obj.cells #[.int .i64 M.k, .slice (some ⟨bP, oP, none⟩) M.next.length cP, .slice (some ⟨bQ, oQ, none⟩) M.good.length cQ] 28 (0, 0)) := by rw [hbw.block _ (by omega)]; exact AH.alloc_at _ _
    have g0 : wr.cell? ⟨W5.heap.size, 0, none⟩ = some (.int .i64 M.k) := by simp [World.cell?, hb0]
    have g1 : wr.cell? ⟨W5.heap.size, 1, none⟩ = some (.slice (some ⟨bP, oP, none⟩) M.next.length cP) := by simp [World.cell?, hb0]
    have g2 : wr.cell? ⟨W5.heap.size, 2, none⟩ = some (.slice (some ⟨bQ, oQ, none⟩) M.good.length cQ) := by simp [World.cell?, hb0]
    have hb5w : Below W5.heap.size W5 wr := ((Below.refl _ _).alloc (Nat.le_refl _) _).trans (hbw.mono (by omega))
    have hm1 : wr.cell? ⟨W4.heap.size, 1, none⟩ = some (.slice (some ⟨bN, oN, none⟩) M.next.length cN) := (hb5w.cell (p := ⟨W4.heap.size, 1, none⟩) hs5').trans e1
    have hws : W5.heap.size + 1 ≤ wr.heap.size := by have := hbw.size; simpa using this
    by_cases hlt : k < M.next.length
    · have hgM : ∀ b ∈ w, badB M.k b = false := by obtain ⟨q, hq1, hq2⟩ := hkM; intro b hb; rw [hq2, hq1]; exact hg b hb
      have cf := w_from M hW k hlt w (by omega) hgM
      have hy := goW_lt hW _ k hlt (lts_ok hgM)
      generalize hye : goW M k (lts w) = y at cf hy
      go_wp2_with (go_at_call 76; refine (below_of cf _ (vs := [.agg #[.int .i64 M.k, .slice (some ⟨bP, oP, none⟩) M.next.length cP, .slice (some ⟨bQ, oQ, none⟩) M.good.length cQ], .int .i64 k, .string ⟨w.toArray⟩]) (.cons (rep_below ra hb5w) (.cons (.int _ _) (repL1 (rep_string w))))).mono ?_)
      rintro e W7 ⟨v7, rfl, r7, b7⟩
      obtain rfl := r7.inv_int
      have hI7 := builder_below hI b7
      have hs7 : W5.heap.size + 1 ≤ W7.heap.size := by have := b7.size; omega
      have hbw7 := hbw.trans (b7.mono hws)
      go_wp2_with (go_at_call 89; refine (Any.Builder_WriteByte_k bldL167 bldX (W5.heap.size + 1) (W5.heap.size + 1) _ _ _ hI7 (by rw [Lib.byteCells_length]; simp; omega) hs7).mono ?_)
      rintro e W8 ⟨rfl, h8, b8, k8⟩
      go_wp2
      go_roundw
      case rel =>
        refine ⟨k + 1, by omega, rfl, Or.inr ?_, hbw7.trans b8⟩
        rw [List.range_succ, List.map_append, Lib.byteCells_append]
        have e : Lib.byteCells ([k].map fun s => UInt8.ofNat (goW M s (lts w))) = [.int .u8 (y : Int)] := by
          simp [Lib.byteCells, hye]; omega
        rw [e]
        exact h8
      case measure =>
        simp [Lib.intOf]; omega
    · obtain rfl : k = M.next.length := by omega
      obtain ⟨bs, hbs⟩ : ∃ bs, bs = (List.range M.next.length).map fun s => UInt8.ofNat (goW M s (lts w)) := ⟨_, rfl⟩
      rw [← hbs] at hI
      have hbl : bs.length = M.next.length := by rw [hbs]; simp
      have hact : ∀ s, s < M.next.length → actS bs s = goW M s (lts w) ∧ goW M s (lts w) < M.next.length := by
        intro s hs
        have hgM : ∀ b ∈ w, badB M.k b = false := by obtain ⟨q, hq1, hq2⟩ := hkM; intro b hb; rw [hq2, hq1]; exact hg b hb
        have hy := goW_lt hW _ s hs (lts_ok hgM)
        have h64 := hm.n64
        refine ⟨?_, hy⟩
        rw [hbs]
        simp [actS, hs]
        omega
      have hper : ∀ s, s < M.next.length → perF (fun t => goW M t (lts w)) M.next.length s = perF (actS bs) bs.length s := by
        intro s hs
        rw [hbl]
        refine perF_congr (fun x hx => (hact x hx).2) (fun x hx => (hact x hx).1.symm) hs
      have hlb : ∀ b ∈ bs, b.toNat < bs.length := by
        intro b hb
        obtain ⟨s, hs, e⟩ := List.mem_iff_getElem.1 hb
        rw [hbl] at hs ⊢
        have h1 := (hact s hs).1; have h2 := (hact s hs).2
        rw [← h1] at h2
        simpa [actS, e, hbl, hs] using h2
      clear hbs
      go_wp2
      go_loopw [48] (fun i wr => ∃ k : Nat, k ≤ M.next.length ∧ i = .int .i64 k ∧ Hid (∀ s, s < k → (perF (actS bs) bs.length s : Int) ≠ p) ∧ Lib.IsBuilderF 136 5 (W5.heap.size + 1) (W5.heap.size + 1) (Lib.byteCells bs) wr ∧ Below (W5.heap.size + 1) (W5.alloc (Obj.cells #[.int .i64 M.k, .slice (some ⟨bP, oP, none⟩) M.next.length cP, .slice (some ⟨bQ, oQ, none⟩) M.good.length cQ] 28)) wr) (fun i wr => M.next.length - (Lib.intOf i).toNat)
      case atStart =>
        exact ⟨0, Nat.zero_le _, rfl, show ∀ s, s < 0 → _ from fun s hs => absurd hs (Nat.not_lt_zero s), hI, hbw⟩
      case round =>
        obtain ⟨s, hs, rfl, hno, hI, hbw⟩ := hrel
        have hws : W5.heap.size + 1 ≤ wr.heap.size := by have := hbw.size; simpa using this
        have b5w : Below W.heap.size W wr := b45.trans (((Below.refl _ _).alloc b45.size _).trans (hbw.mono (by have := b45.size; omega)))
        by_cases hlt : s < M.next.length
        · go_wp2_with (go_at_call 90; refine (Any.Builder_String_any_k bldL169 bldX (W5.heap.size + 1) (W5.heap.size + 1) _ _ hI hws).mono ?_)
          rintro e W6 ⟨rfl, hI6, b6, _⟩
          have cp := w_period bs hlb (by omega) s (by omega)
          go_wp2_with (go_at_call 86; refine (below_of cp _ (vs := [.string ⟨bs.toArray⟩, .int .i64 s]) (.cons (rep_string bs) (repL1 (.int _ _)))).mono ?_)
          rintro e W7 ⟨v7, rfl, r7, b7⟩
          obtain rfl := r7.inv_int
          have hws6 : wr.heap.size ≤ W6.heap.size := b6.size
          have hb7 := hbw.trans (b6.trans (b7.mono (by omega)))
          have hI7 := builder_below hI6 b7
          have hend : Below W.heap.size W W7 := b5w.trans (((b6.mono (by have := b45.size; omega))).trans (b7.mono (by have := b5w.size; omega)))
          have hyH : Hid ((perF (actS bs) bs.length s : Int) = p → grpB m w p = true) := fun he => hgy hlt (by rw [hper s hlt]; exact he)
          go_wp2
          · go_ret
            refine ⟨?_, hend⟩
            have : grpB m w p = true := hyH.out (by rename_i hz; rw [hbl]; simpa using hz)
            rw [this]; rfl
          · go_roundw
            case rel =>
              refine ⟨s + 1, by omega, rfl, ?_, hI7, hb7⟩
              intro j hj
              by_cases h : j = s
              · subst h; (first | (rename_i hz; rw [hbl]; simpa using hz) | (rename_i hz _; rw [hbl]; simpa using hz) | (rename_i hz _ _; rw [hbl]; simpa using hz) | (rename_i hz _ _ _; rw [hbl]; simpa using hz) | (rename_i hz _ _ _ _; rw [hbl]; simpa using hz))
              · exact hno j (by omega)
            case measure =>
              simp [Lib.intOf]; omega
        · obtain rfl : s = M.next.length := by omega
          have hy := hgn (fun s hs => by rw [hper s hs]; exact hno s hs)
          go_wp2
          go_ret
          exact ⟨by rw [hy]; rfl, b5w⟩
end Go.Proofs

end

section
/-
  IsGroup, as a call of the layer: at every word and number.
-/
namespace Go.Proofs
open Go Go.AH Go.RowKit
set_option maxRecDepth 10000
set_option maxHeartbeats 4000000

/-- A number that is too small is no group witness. -/
theorem w_IsGroupSmall (m : Dfa) (hm : m.ok) (w : List UInt8) (hw : w.length ≤ 4611686018427387904) (p : Int) (hp : p < 2) (he : wordErr m.k w = 0) : AH.Pure Try.prog 48 [m.av, .str w, .int .i64 p] (.bool false) := by
  refine pure_of (acalls_of Try.func48 rfl Try.call48 (by kernel_rfl) (by show _ ≤ (57 : Nat); simp) ?_)
  have c1 := w_check m hm
  have c2 := w_checkWord m.k hm.k4 [w] (by simp) (by simp [hw])
  rw [wordsErr_one] at c2
  simp only [List.map_cons, List.map_nil, List.length_singleton] at c2
  simp only [Dfa.av] at c1 ⊢
  simp
  intro b3 hb3
  simp
  refine c1.use ?_
  simp
  intro b19 hb19
  simp at hb19
  simp [hb19]
  refine ACalls.turn 1 (AHeap.empty.upd b3 (.cells [.int .i64 m.k, nrowsA m.next, boolsA m.good])) (SubH.one (cs := [.int .i64 m.k, nrowsA m.next, boolsA m.good]) 1 _ (by simp [hb19]) (by simp [frzF, nrowsA, boolsA])) ?_
  have hargs : ([.int .i64 m.k, .osl b19 0 1 1] : List AV).map (frzF 1 ((AHeap.empty.upd b3 (.cells [.int .i64 m.k, nrowsA m.next, boolsA m.good])).upd b19 (.cells [.str w])) (AHeap.empty.upd b3 (.cells [.int .i64 m.k, nrowsA m.next, boolsA m.good]))) = [.int .i64 m.k, .sl 1 [.str w]] := by simp [frzF, hb19]
  rw [hargs]
  refine c2.use ?_
  simp [he, hp]
  exact finA_drop rfl

theorem w_IsGroup (m : Dfa) (hm : m.ok) (w : List UInt8) (hw : w.length ≤ 4611686018427387904) (p : Int) : AH.Pure Try.prog 48 [m.av, .str w, .int .i64 p] (.bool (grpB m w p)) := by
  by_cases he : wordErr m.k w = 0
  · by_cases hp : p < 2
    · rw [grpB_bad (.inr hp)]; exact w_IsGroupSmall m hm w hw p hp he
    · obtain ⟨hg, hl⟩ := not_bad he
      intro H
      refine acalls_world Try.call48 fun g W vs R hg' A => ?_
      obtain ⟨v0, vs, rfl, r0, A⟩ := A.uncons
      obtain ⟨v1, vs, rfl, r1, A⟩ := A.uncons
      obtain ⟨v2, vs, rfl, r2, A⟩ := A.uncons
      obtain rfl : vs = [] := List.eq_nil_of_length_eq_zero A.1
      obtain ⟨s, rfl, hs⟩ := Rep.inv_str r1
      obtain rfl := Rep.inv_int r2
      obtain rfl : s = ⟨w.toArray⟩ := by
        cases s with
        | mk a => simp only at hs; rw [← hs]
      obtain ⟨x0, x1, x2, rfl, q0, q1, q2⟩ := rep_three (rep_empty r0)
      refine (w_IsGroup_w m hm w hl hg p (by omega) W x0 x1 x2 q0 q1 q2).mono ?_
      rintro e w' ⟨rfl, hb⟩
      exact ⟨_, rfl, .bool _, hb⟩
  · rw [grpB_bad (.inl he)]; exact w_IsGroupBad m hm w hw p he
end Go.Proofs

end
