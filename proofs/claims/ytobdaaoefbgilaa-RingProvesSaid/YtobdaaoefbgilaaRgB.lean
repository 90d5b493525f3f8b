/-
  Ring: walks of step, listed, Check, configOf.
-/
import Derived.Test.YtobdaaoefbgilaaRgA
set_option linter.unusedSimpArgs false
set_option linter.unusedVariables false
set_option linter.unusedSectionVars false
namespace Go.Proofs
open Go Go.AH
set_option maxRecDepth 10000
set_option maxHeartbeats 4000000

/-! ### step -/
theorem stepF_len (r : Rul) (l ms : List Nat) : (stepF r l ms).length = l.length := by
  have : ∀ (ms : List Nat) (out : List Nat), (ms.foldl (fun out i => out.set i (takesF r l i).toNat) out).length = out.length := by
    intro ms
    induction ms with
    | nil => intro out; rfl
    | cons i ms ih => intro out; simp [ih]
  exact this ms l
theorem stepF_take (r : Rul) (l ms : List Nat) (k : Nat) (hk : k < ms.length) : stepF r l (ms.take (k + 1)) = (stepF r l (ms.take k)).set ms[k] (takesF r l ms[k]).toNat := by
  unfold stepF
  rw [List.take_succ_eq_append_getElem hk, List.foldl_append]
  rfl
theorem cfgL_set {l : List Nat} {i x : Nat} (hi : i < l.length) : (cfgL l).set i (.int .u8 (x : Int)) = cfgL (l.set i x) := by
  unfold cfgL
  rw [List.length_set, List.map_append, List.map_append, List.set_append_left _ _ (by simpa using hi), List.map_set]
theorem step_cfg {r : Rul} (hr : r.ok) {l : List Nat} (hl : Cfg r l) {ms : List Nat} (hms : ∀ i ∈ ms, i < r.m ∧ 0 ≤ takesF r l i) : Cfg r (stepF r l ms) := by
  refine ⟨by rw [stepF_len, hl.len], ?_⟩
  have : ∀ (ms : List Nat) (out : List Nat), (∀ i ∈ ms, i < r.m ∧ 0 ≤ takesF r l i) → (∀ x ∈ out, x < r.c) → ∀ x ∈ ms.foldl (fun out i => out.set i (takesF r l i).toNat) out, x < r.c := by
    intro ms
    induction ms with
    | nil => intro out _ h; exact h
    | cons i ms ih =>
      intro out hm ho
      refine ih _ (fun j hj => hm j (by simp [hj])) fun x hx => ?_
      rcases List.mem_or_eq_of_mem_set hx with h | rfl
      · exact ho x h
      · obtain ⟨h1, h2⟩ := hm i (by simp)
        have := takes_bd hr hl h1
        omega
  exact this ms l hms hl.lt
theorem w_step (r : Rul) (hr : r.ok) (l : List Nat) (hl : Cfg r l) (ms : List Nat) (hms : ∀ i ∈ ms, i < r.m ∧ 0 ≤ takesF r l i) (hml : ms.length ≤ 1000000) : Pure Try.prog 52 [r.av, cfgA l, natsA ms] (cfgA (stepF r l ms)) := by
  refine pure_of (acalls_of Try.func52 rfl Try.call52 (by kernel_rfl) (by show _ ≤ (26 : Nat); simp) ?_)
  have q2 := hr.m6; have q4 := hr.c6
  have hll := hl.len
  have hcl : ∀ l' : List Nat, l'.length = r.m → (cfgL l').length = 6 := fun l' h => cfgL_len (by omega)
  have htk : ∀ l' : List Nat, l'.length = r.m → (cfgL l').take 6 = cfgL l' := fun l' h => List.take_of_length_le (by rw [hcl l' h]; omega)
  have hsl : ∀ ms, (stepF r l ms).length = r.m := fun ms => by rw [stepF_len, hll]
  have hz : ∀ l' : List Nat, l'.length = r.m → splice [.int .u8 0, .int .u8 0, .int .u8 0, .int .u8 0, .int .u8 0, .int .u8 0] 0 (cfgL l') = cfgL l' := fun l' h => splice_all (by rw [hcl l' h]; rfl)
  have ct := w_takes r hr l hl
  simp only [Rul.av, cfgA] at ct ⊢
  simp
  intro b3 hb3
  simp
  intro b4 hb4
  simp at hb4
  simp [hb4]
  intro b6 hb6
  simp at hb6
  simp [hb4, hb6, hcl l hll, htk l hll]
  intro b7 hb7
  simp at hb7
  simp [hb4, hb6, hb7, hcl l hll, hz l hll, natsA]
  refine awp_loop_g (γ := Nat) (fun k t h => (k ≤ ms.length) ∧ t 3 = .ptr b3 0 ∧ t 4 = .ptr b4 0 ∧ t 6 = .ptr b6 0 ∧ t 7 = .ptr b7 0 ∧ t 11 = .sl ms.length (ms.map fun x : Nat => AV.int .i64 (x : Int)) ∧ t 12 = .int .i64 ms.length ∧ t 13 = .int .i64 k ∧ h = (((AHeap.empty.upd b3 (.cells [.int .i64 r.m, .int .i64 r.c, rowsA r.next])).upd b4 (.cells (cfgL l))).upd b6 (.cells [.int .u8 0, .int .u8 0, .int .u8 0, .int .u8 0, .int .u8 0, .int .u8 0])).upd b7 (.cells (cfgL (stepF r l (ms.take k))))) (fun k => ms.length - k) (0) (turnA_self (by simp [hb4, hb6, hb7, stepF])) ?_
  rintro k t h ⟨hk, h3, h4, h6, h7, h11, h12, h13, rfl⟩
  by_cases hlt : k < ms.length
  · have hwk : IntKind.i64.wrap ((k : Int) + 1) = (k : Int) + 1 := wrap_i64 (by omega) (by omega)
    have hst := stepF_take r l ms k hlt
    obtain ⟨hmi, hmt⟩ := hms ms[k] (List.getElem_mem hlt)
    obtain ⟨i, hi⟩ : ∃ i, i = ms[k] := ⟨_, rfl⟩
    rw [← hi] at hst hmi hmt
    have hbd := takes_bd hr hl hmi
    have hlen := hsl (ms.take k)
    obtain ⟨x, hx⟩ : ∃ x : Nat, x = (takesF r l i).toNat := ⟨_, rfl⟩
    have hxi : takesF r l i = (x : Int) := by omega
    have cti := ct i hmi
    rw [hxi] at cti
    rw [← hx] at hst
    have hset := cfgL_set (l := stepF r l (ms.take k)) (i := i) (x := x) (by omega)
    have hsp := splice_one (l := cfgL (stepF r l (ms.take k))) (i := i) (v := AV.int .u8 (x : Int)) (by rw [hcl _ hlen]; omega)
    have v3 : IntKind.u8.wrap (x : Int) = x := wrap_u8 (by omega) (by omega)
    have hi6 : (i : Int) < 6 := by omega
    have hi6' : i + 1 ≤ 6 := by omega
    simp [h3, h4, h6, h7, h11, h12, h13, hlt, ← hi, hb4, hb6, hb7, hcl l hll, htk l hll]
    refine cti.use ?_
    simp [h3, h4, h6, h7, h11, h12, h13, hi6, hi6', v3, hcl _ hlen, hb4, hb6, hb7]
    exact turnA_self ⟨k + 1, by omega, by omega, by simp [h3, h4, h6, h7, h11, h12, h13, hwk, hst, hsp, hset]⟩
  · obtain rfl : k = ms.length := by omega
    simp [h3, h4, h6, h7, h11, h12, h13, hb4, hb6, hb7, hcl _ (hsl ms), htk _ (hsl ms), hz _ (hsl ms)]
    exact finA_drop rfl

/-! ### listed -/
theorem w_listed (r : Rul) (hr : r.ok) (l : List Nat) (hl : Cfg r l) : Pure Try.prog 53 [r.av, cfgA l] (natsA l) := by
  refine pure_of (acalls_of Try.func53 rfl Try.call53 (by kernel_rfl) (by show _ ≤ (23 : Nat); simp) ?_)
  have q1 := hr.m2; have q2 := hr.m6; have q4 := hr.c6
  have q2' : (r.m : Int) ≤ 6 := by omega
  have hll := hl.len
  have hcl : (cfgL l).length = 6 := cfgL_len (by omega)
  have hne : ¬ l = [] := by intro e; rw [e] at hll; simp at hll; omega
  simp only [Rul.av, cfgA]
  simp
  intro b2 hb2
  simp
  intro b3 hb3
  simp at hb3
  simp [hb3, hcl, q2, q2']
  refine awp_loop_g (γ := At) (fun q t h => (q.i ≤ r.m) ∧ ((q.o = none ↔ l.take q.i = []) ∧ ¬ q.o = some b2 ∧ ¬ q.o = some b3) ∧ t 5 = ownV q.o q.i 1 ∧ t 10 = .osl b3 0 r.m 1 ∧ t 11 = .int .i64 r.m ∧ t 12 = .int .i64 q.i ∧ h = ((AHeap.empty.upd b2 (.cells [.int .i64 r.m, .int .i64 r.c, rowsA r.next])).upd b3 (.cells (cfgL l))).updO q.o ((l.take q.i).map fun x : Nat => AV.int .i64 (x : Int))) (fun q => r.m - q.i) (⟨0, none⟩) (turnA_self (by simp [hb3])) ?_
  rintro q t h ⟨hi, ho, h5, h10, h11, h12, rfl⟩
  obtain ⟨i, o⟩ := q
  simp only at h5 h10 h11 h12 hi ho
  obtain ⟨ho1, ho2, ho3⟩ := ho
  by_cases hlt : i < r.m
  · have hwi : IntKind.i64.wrap ((i : Int) + 1) = (i : Int) + 1 := wrap_i64 (by omega) (by omega)
    have hil : i < l.length := by omega
    have hg := cfgL_get hil
    have hgd : colF l i = l[i] := by simp [colF, hil]
    have hi6 : i < 6 := by omega
    have hts : l.take (i + 1) = l.take i ++ [l[i]] := List.take_succ_eq_append_getElem hil
    have hxc := hl.lt _ (List.getElem_mem hil)
    rw [hgd] at hg
    generalize l[i] = x at *
    have v0 : IntKind.i64.wrap (x : Int) = x := wrap_i64 (by omega) (by omega)
    simp [h5, h10, h11, h12, hlt, hb3, ho2, ho3, hg, hcl, v0]
    intro b1 hb1
    simp [ho2, ho3] at hb1
    simp [h5, h10, h11, h12, hb1]
    refine appendA_updO (by omega) (by omega) (fun e => by simpa using ho1.1 e) (by simp; omega) (by simp) (by simp [ho2, ho3, hb1]) fun b' hb' => ?_
    simp at hb'
    simp [h5, h10, h11, h12, hb1, hb']
    refine turnA_to (((AHeap.empty.upd b2 (.cells [.int .i64 r.m, .int .i64 r.c, rowsA r.next])).upd b3 (.cells (cfgL l))).updO (some b') ((l.take (i + 1)).map fun x : Nat => AV.int .i64 (x : Int))) ?_ ⟨⟨i + 1, some b'⟩, by simp only; omega, by simp only; omega, by simp [hts, hb', hne], by simp [h5, h10, h11, h12, hwi, hb']⟩
    rw [hts]
    simp
    exact Drop.both (Drop.new (Drop.refl _) (by simp [hb1]))
  · obtain rfl : i = r.m := by omega
    have hta : l.take r.m = l := List.take_of_length_le (by omega)
    rw [hta] at ho1
    simp [h5, h10, h11, h12, hta]
    refine finA_list hll.symm ho1 ?_
    simp [listA, hne]
end Go.Proofs
