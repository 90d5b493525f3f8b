/-
  Texts: RgA RgB RgC RgD.
-/
import Derived.Test.YtobdaaoefbgilaaTy
import Derived.Test.YtobdaaoefbgilaaA3
import Derived.Test.YtobdaaoefbgilaaAhIn
import Derived.Test.YtobdaaoefbgilaaAhOwn
set_option linter.unusedSimpArgs false
set_option linter.unusedVariables false
set_option linter.unusedSectionVars false
section
/-
  Ring: rules, configurations, what they compute; walks of the program's small functions.
-/
namespace Go.Proofs
open Go Go.AH
set_option maxRecDepth 10000
set_option maxHeartbeats 4000000

def natsA (l : List Nat) : AV := .sl l.length (l.map fun x : Nat => AV.int .i64 (x : Int))
@[simp] theorem natsA_one {l : List Nat} : (natsA l).one = true := rfl
@[simp] theorem natsA_fit {l : List Nat} : (natsA l).fit = true := rfl
@[simp] theorem natsA_cells {l : List Nat} : (natsA l).cells = [natsA l] := rfl
theorem nats_frozen {l : List Nat} : ∀ a ∈ l.map (fun x : Nat => AV.int .i64 (x : Int)), a.frozen = true := by
  intro a ha
  obtain ⟨x, _, rfl⟩ := List.mem_map.1 ha
  rfl
@[simp] theorem natsA_frozen {l : List Nat} : (natsA l).frozen = true := by simp only [natsA, AV.frozen]; exact frozens_iff.2 nats_frozen
@[simp] theorem frz_nats {l : List Nat} {k : Nat} {h h' : AHeap} : frzF k h h' (natsA l) = natsA l := frz_frozen k _ natsA_frozen
@[simp] theorem map_frz_nats {l : List Nat} {k : Nat} {h h' : AHeap} : (l.map fun x : Nat => AV.int .i64 (x : Int)).map (frzF k h h') = l.map fun x : Nat => AV.int .i64 (x : Int) := map_frozen nats_frozen

/-- A protocol. -/
structure Rul where
  m : Nat
  c : Nat
  next : List (List Int)
def Rul.av (r : Rul) : AV := .agg [.int .i64 (r.m : Int), .int .i64 (r.c : Int), rowsA r.next]
/-- Powers, under a name that the simplifier leaves alone. -/
def pw (c k : Nat) : Nat := c ^ k
theorem pw_zero (c : Nat) : pw c 0 = 1 := rfl
theorem pw_succ (c k : Nat) : pw c (k + 1) = pw c k * c := by unfold pw; rw [Nat.pow_succ]
theorem pw_pos {c : Nat} (h : 0 < c) (k : Nat) : 0 < pw c k := Nat.pow_pos h
def Rul.size (r : Rul) : Nat := pw r.c r.m
structure Rul.ok (r : Rul) : Prop where
  m2 : 2 ≤ r.m
  m6 : r.m ≤ 6
  c2 : 2 ≤ r.c
  c6 : r.c ≤ 6
  sz : r.size ≤ 20000
  nl : r.next.length = r.m
  rl : ∀ row ∈ r.next, row.length = r.c * r.c * r.c
  lo : ∀ row ∈ r.next, ∀ x ∈ row, -1 ≤ x
  hi : ∀ row ∈ r.next, ∀ x ∈ row, x < r.c
  ne : ∀ (i k : Nat), (r.next.getD i []).getD k (-1) ≠ ((k / r.c % r.c : Nat) : Int)
/-- A configuration: as many colours as there are machines. -/
structure Cfg (r : Rul) (l : List Nat) : Prop where
  len : l.length = r.m
  lt : ∀ x ∈ l, x < r.c
def colF (l : List Nat) (i : Nat) : Nat := l.getD i 0
def atF (r : Rul) (l : List Nat) (i : Nat) : Nat := (colF l ((i + r.m - 1) % r.m) * r.c + colF l i) * r.c + colF l ((i + 1) % r.m)
def takesF (r : Rul) (l : List Nat) (i : Nat) : Int := (r.next.getD i []).getD (atF r l i) (-1)
def readyF (r : Rul) (l : List Nat) : List Nat := (List.range r.m).filter fun i => decide (0 ≤ takesF r l i)
def stepF (r : Rul) (l : List Nat) (ms : List Nat) : List Nat := ms.foldl (fun out i => out.set i (takesF r l i).toNat) l
def numF (c : Nat) (l : List Nat) : Nat := l.foldl (fun n x => n * c + x) 0
/-- The digits of a number, the last one of the lowest worth. -/
def ofF (c : Nat) : Nat → Nat → List Nat
  | 0, _ => []
  | m + 1, n => ofF c m (n / c) ++ [n % c]
/-- A configuration as an array of six bytes. -/
def cfgL (l : List Nat) : List AV := (l ++ List.replicate (6 - l.length) 0).map fun x : Nat => AV.int .u8 (x : Int)
def cfgA (l : List Nat) : AV := .agg (cfgL l)
theorem cfgL_len {l : List Nat} (h : l.length ≤ 6) : (cfgL l).length = 6 := by simp [cfgL]; omega
theorem cfgL_get {l : List Nat} {i : Nat} (hi : i < l.length) : (cfgL l)[i]? = some (.int .u8 (colF l i : Int)) := by
  simp [cfgL, colF, hi, List.getElem?_append_left]

theorem pow_le6 {c m : Nat} (hc : c ≤ 6) (hm : m ≤ 6) : pw c m ≤ 46656 := by
  have h1 : c ^ m ≤ 6 ^ m := Nat.pow_le_pow_left hc m
  have h2 : 6 ^ m ≤ 6 ^ 6 := Nat.pow_le_pow_right (by omega) hm
  unfold pw
  omega
theorem w_size (m c : Nat) (q1 : 2 ≤ m) (q2 : m ≤ 6) (q3 : 2 ≤ c) (q4 : c ≤ 6) (q5 : pw c m ≤ 20000) : Pure Try.prog 58 [.int .i64 m, .int .i64 c] (.int .i64 (pw c m : Nat)) := by
  refine pure_of (acalls_of Try.func58 rfl Try.call58 (by kernel_rfl) (by show _ ≤ (30 : Nat); simp) ?_)
  have e1 : ¬ (m : Int) < 2 := by omega
  have e2 : ¬ 6 < (m : Int) := by omega
  have e3 : ¬ (c : Int) < 2 := by omega
  have e4 : ¬ 6 < (c : Int) := by omega
  simp [e1, e2, e3, e4]
  refine awp_loop_g (γ := Nat) (fun k t h => (k ≤ m) ∧ t 1 = .int .i64 c ∧ t 5 = .int .i64 (pw c k : Nat) ∧ t 20 = .int .i64 m ∧ t 21 = .int .i64 k) (fun k => m - k) (0) (turnA_self (by simp [pw_zero])) ?_
  rintro k t h ⟨hk, h1, h5, h20, h21⟩
  by_cases hlt : k < m
  · have hp := pow_le6 q4 (show k + 1 ≤ 6 by omega)
    have hwk : IntKind.i64.wrap ((k : Int) + 1) = (k : Int) + 1 := wrap_i64 (by omega) (by omega)
    have hwp : IntKind.i64.wrap ((pw c k : Int) * (c : Int)) = (pw c (k + 1) : Nat) := by
      rw [pw_succ] at hp ⊢
      rw [← Int.natCast_mul]
      exact wrap_i64 (by omega) (by omega)
    simp [h1, h5, h20, h21, hlt]
    exact turnA_self ⟨k + 1, by omega, by omega, by simp [h1, h5, h20, h21, hwk, hwp]⟩
  · obtain rfl : k = m := by omega
    have h6 : ¬ 20000 < (pw c k : Int) := by omega
    simp [h1, h5, h20, h21, h6]
    exact finA_drop rfl

/-! ### Numbers and configurations -/
@[simp] theorem ofF_len (c : Nat) : ∀ m n, (ofF c m n).length = m
  | 0, _ => rfl
  | m + 1, n => by simp [ofF, ofF_len c m]
theorem ofF_lt {c : Nat} (hc : 0 < c) : ∀ m n, ∀ x ∈ ofF c m n, x < c
  | 0, _, x, h => by simp [ofF] at h
  | m + 1, n, x, h => by
    simp only [ofF, List.mem_append, List.mem_singleton] at h
    rcases h with h | rfl
    · exact ofF_lt hc m _ x h
    · exact Nat.mod_lt _ hc
theorem numF_snoc (c : Nat) (l : List Nat) (x : Nat) : numF c (l ++ [x]) = numF c l * c + x := by simp [numF]
theorem num_of {c : Nat} (hc : 0 < c) : ∀ m n, n < pw c m → numF c (ofF c m n) = n
  | 0, n, h => by
    rw [pw_zero] at h
    have : n = 0 := by omega
    subst this; rfl
  | m + 1, n, h => by
    rw [ofF, numF_snoc, num_of hc m (n / c) (by rw [pw_succ] at h; exact Nat.div_lt_of_lt_mul (by rw [Nat.mul_comm]; exact h))]
    have := Nat.div_add_mod n c
    rw [Nat.mul_comm] at this
    exact this
theorem of_num {c : Nat} (hc : 0 < c) : ∀ (l : List Nat), (∀ x ∈ l, x < c) → ofF c l.length (numF c l) = l := by
  intro l
  have key : ∀ l : List Nat, (∀ x ∈ l, x < c) → ofF c l.length (numF c l.reverse) = l.reverse := by
    intro l
    induction l with
    | nil => intro _; rfl
    | cons x l ih =>
      intro h
      have hx := h x (by simp)
      rw [List.reverse_cons, List.length_cons, ofF, numF_snoc]
      have h1 : (numF c l.reverse * c + x) / c = numF c l.reverse := by
        rw [Nat.mul_comm, Nat.mul_add_div hc, Nat.div_eq_of_lt hx]; omega
      have h2 : (numF c l.reverse * c + x) % c = x := by
        rw [Nat.mul_comm, Nat.mul_add_mod, Nat.mod_eq_of_lt hx]
      rw [h1, h2, ih fun y hy => h y (by simp [hy])]
  intro h
  have := key l.reverse (fun x hx => h x (by simpa using hx))
  rw [List.reverse_reverse, List.length_reverse] at this
  exact this
theorem num_lt {c : Nat} (hc : 0 < c) : ∀ (l : List Nat), (∀ x ∈ l, x < c) → numF c l < pw c l.length := by
  intro l
  have key : ∀ l : List Nat, (∀ x ∈ l, x < c) → numF c l.reverse < pw c l.length := by
    intro l
    induction l with
    | nil => intro _; exact Nat.one_pos
    | cons x l ih =>
      intro h
      have hx := h x (by simp)
      have := ih fun y hy => h y (by simp [hy])
      rw [List.reverse_cons, numF_snoc, List.length_cons, pw_succ]
      have h1 : (numF c l.reverse + 1) * c ≤ pw c l.length * c := Nat.mul_le_mul_right _ this
      rw [Nat.add_mul] at h1
      omega
  intro h
  have := key l.reverse (fun x hx => h x (by simpa using hx))
  rw [List.reverse_reverse, List.length_reverse] at this
  exact this
theorem of_cfg {r : Rul} (hr : r.ok) (n : Nat) : Cfg r (ofF r.c r.m n) := ⟨ofF_len _ _ _, ofF_lt (by have := hr.c2; omega) _ _⟩
theorem cfg_num {r : Rul} (hr : r.ok) {l : List Nat} (h : Cfg r l) : numF r.c l < r.size := by
  have := num_lt (by have := hr.c2; omega) l h.lt
  rw [h.len] at this; exact this
theorem cfg_of {r : Rul} (hr : r.ok) {l : List Nat} (h : Cfg r l) : ofF r.c r.m (numF r.c l) = l := by
  have := of_num (by have := hr.c2; omega) l h.lt
  rw [h.len] at this; exact this
/-- The digits from a place on. -/
def tailF (c m n i : Nat) : List Nat := (ofF c m n).drop i
theorem ofF_get (c : Nat) : ∀ m n i, i < m → (ofF c m n).getD i 0 = n / pw c (m - 1 - i) % c
  | 0, _, _, h => by omega
  | m + 1, n, i, h => by
    simp only [ofF]
    by_cases hi : i < m
    · have := ofF_get c m (n / c) i hi
      rw [List.getD_eq_getElem?_getD, List.getElem?_append_left (by simp [hi]), ← List.getD_eq_getElem?_getD, this, Nat.div_div_eq_div_mul]
      have e : m + 1 - 1 - i = (m - 1 - i) + 1 := by omega
      rw [e, pw_succ, Nat.mul_comm]
    · obtain rfl : i = m := by omega
      simp [pw_zero]

/-- A number without its last digits. -/
def upF (c n j : Nat) : Nat := n / pw c j
/-- The array as far as it is filled, from behind. -/
def fillL (c m n i : Nat) : List AV := (List.range 6).map fun j => AV.int .u8 ((if i ≤ j ∧ j < m then (ofF c m n).getD j 0 else 0 : Nat) : Int)
@[simp] theorem fillL_len (c m n i : Nat) : (fillL c m n i).length = 6 := by simp [fillL]
theorem fillL_end (c m n : Nat) : fillL c m n m = List.replicate 6 (.int .u8 0) := by
  refine List.ext_getElem (by simp) fun j h1 h2 => ?_
  have : ¬ (m ≤ j ∧ j < m) := by omega
  have hr : (List.replicate 6 (AV.int .u8 0))[j] = .int .u8 0 := List.getElem_replicate ..
  rw [hr]
  simp [fillL, this]
theorem fillL_zero {c m n : Nat} (hm : m ≤ 6) : fillL c m n 0 = cfgL (ofF c m n) := by
  refine List.ext_getElem (by rw [fillL_len, cfgL_len (by simpa using hm)]) fun j h1 h2 => ?_
  have hj : j < 6 := by simpa using h1
  simp only [fillL, cfgL, List.getElem_map, List.getElem_range]
  congr 1
  by_cases h : j < m
  · rw [List.getElem_append_left (by simpa using h)]
    simp [h]
  · rw [List.getElem_append_right (by simpa using h)]
    simp [h]
theorem fillL_step {c m n i : Nat} (hi : i < m) (hm : m ≤ 6) : (fillL c m n (i + 1)).set i (.int .u8 ((ofF c m n).getD i 0 : Nat)) = fillL c m n i := by
  refine List.ext_getElem (by simp) fun j h1 h2 => ?_
  rw [List.getElem_set]
  simp only [fillL, List.getElem_map, List.getElem_range]
  split
  · next e => subst e; simp [hi]
  · next e =>
    by_cases h : i ≤ j ∧ j < m
    · have : i + 1 ≤ j ∧ j < m := by omega
      simp [h, this]
    · have : ¬ (i + 1 ≤ j ∧ j < m) := by omega
      simp [h, this]
theorem w_config (r : Rul) (hr : r.ok) (n : Nat) (hn : n < r.size) : Pure Try.prog 59 [r.av, .int .i64 n] (cfgA (ofF r.c r.m n)) := by
  refine pure_of (acalls_of Try.func59 rfl Try.call59 (by kernel_rfl) (by show _ ≤ (26 : Nat); simp) ?_)
  have q1 := hr.m2; have q2 := hr.m6; have q3 := hr.c2; have q4 := hr.c6; have q5 := hr.sz
  have hz : ∀ l : List AV, l.length = 6 → splice [.int .u8 0, .int .u8 0, .int .u8 0, .int .u8 0, .int .u8 0, .int .u8 0] 0 l = l := fun l hl => by
    match l, hl with
    | [a, b, c, d, e, f], _ => rfl
  simp [Rul.av]
  intro b2 hb2
  simp
  intro b4 hb4
  simp at hb4
  simp [hb4]
  intro b5 hb5
  simp at hb5
  have hm1 : IntKind.i64.wrap ((r.m : Int) - 1) = ((r.m : Nat) : Int) - 1 := wrap_i64 (by omega) (by omega)
  have hst : [.int .u8 0, .int .u8 0, .int .u8 0, .int .u8 0, .int .u8 0, .int .u8 0] = fillL r.c r.m n r.m := by rw [fillL_end]; rfl
  simp [hb4, hb5, hm1]
  refine awp_loop_g (γ := Nat) (fun i t h => (i ≤ r.m) ∧ t 1 = .int .i64 (upF r.c n (r.m - i) : Nat) ∧ t 2 = .ptr b2 0 ∧ t 4 = .ptr b4 0 ∧ t 5 = .ptr b5 0 ∧ t 6 = .int .i64 ((i : Int) - 1) ∧ h = ((AHeap.empty.upd b2 (.cells [.int .i64 r.m, .int .i64 r.c, rowsA r.next])).upd b4 (.cells [.int .u8 0, .int .u8 0, .int .u8 0, .int .u8 0, .int .u8 0, .int .u8 0])).upd b5 (.cells (fillL r.c r.m n i))) (fun i => i) (r.m) (turnA_self (by simp [hb4, hb5, hst, upF, pw_zero])) ?_
  rintro i t h ⟨hi, h1, h2, h4, h5, h6, rfl⟩
  by_cases hlt : 0 < i
  · have hi1 : (1 : Int) ≤ (i : Int) := by omega
    have hi1' : 1 ≤ i := by omega
    have hq : upF r.c n (r.m - i) ≤ 20000 := Nat.le_trans (Nat.div_le_self _ _) (by unfold Rul.size at hn q5; omega)
    obtain ⟨q, hqe⟩ : ∃ q, q = upF r.c n (r.m - i) := ⟨_, rfl⟩
    rw [← hqe] at hq
    have hdig : (ofF r.c r.m n).getD (i - 1) 0 = q % r.c := by
      rw [ofF_get _ _ _ _ (by omega), hqe]; unfold upF; congr 3; omega
    have hdiv : upF r.c n (r.m - (i - 1)) = q / r.c := by
      unfold upF at hqe ⊢
      have e : r.m - (i - 1) = (r.m - i) + 1 := by omega
      rw [e, pw_succ, ← Nat.div_div_eq_div_mul, hqe]
    have hmod : q % r.c < r.c := Nat.mod_lt _ (by omega)
    have hc0 : ¬ r.c = 0 := by omega
    have v1 : (q : Int).tmod (r.c : Int) = (q % r.c : Nat) := by rw [Int.tmod_eq_emod_of_nonneg (by omega)]; rfl
    have v2 : (q : Int).tdiv (r.c : Int) = (q / r.c : Nat) := by rw [Int.tdiv_eq_ediv_of_nonneg (by omega)]; rfl
    have hdl : q / r.c ≤ q := Nat.div_le_self _ _
    have hset := fillL_step (c := r.c) (n := n) (i := i - 1) (m := r.m) (by omega) q2
    rw [hdig, show i - 1 + 1 = i from by omega] at hset
    generalize hd : q % r.c = d at *
    have hsp := splice_one (l := fillL r.c r.m n i) (i := i - 1) (v := AV.int .u8 (d : Int)) (by simp; omega)
    generalize hqq : q / r.c = qd at *
    have v3 : IntKind.u8.wrap (d : Int) = d := wrap_u8 (by omega) (by omega)
    have v4 : IntKind.i64.wrap (qd : Int) = qd := wrap_i64 (by omega) (by omega)
    have v5 : IntKind.i64.wrap ((i : Int) - 1 - 1) = ((i - 1 : Nat) : Int) - 1 := by rw [wrap_i64 (by omega) (by omega)]; omega
    have hin : (i : Int) - 1 < 6 := by omega
    have hnat : ((i : Int) - 1).toNat = i - 1 := by omega
    simp [h1, h2, h4, h5, h6, hi1, hi1', hin, ← hqe, hb4, hb5, hc0, v1, v2, v3, v4, hnat]
    exact ⟨by omega, turnA_self ⟨i - 1, by omega, by omega, by simp [h1, h2, h4, h5, h6, v5, hdiv, hset, hsp]⟩⟩
  · obtain rfl : i = 0 := by omega
    have hcl : (cfgL (ofF r.c r.m n)).length = 6 := cfgL_len (by simpa using q2)
    simp [h1, h2, h4, h5, h6, hb4, hb5, fillL_zero q2, hcl, List.take_of_length_le]
    exact finA_drop rfl

/-! ### number -/
theorem numF_take (c : Nat) (l : List Nat) (i : Nat) (hi : i < l.length) : numF c (l.take (i + 1)) = numF c (l.take i) * c + l[i] := by
  rw [List.take_succ_eq_append_getElem hi, numF_snoc]
theorem num_take_le {c : Nat} (hc : 2 ≤ c) (hc6 : c ≤ 6) {l : List Nat} (hl : l.length ≤ 6) (h : ∀ x ∈ l, x < c) (i : Nat) : numF c (l.take i) ≤ 46656 := by
  have h1 := num_lt (by omega) (l.take i) fun x hx => h x (List.mem_of_mem_take hx)
  have h2 := pow_le6 hc6 (show (l.take i).length ≤ 6 by simp; omega)
  omega
theorem w_number (r : Rul) (hr : r.ok) (l : List Nat) (hl : Cfg r l) : Pure Try.prog 54 [r.av, cfgA l] (.int .i64 (numF r.c l : Nat)) := by
  refine pure_of (acalls_of Try.func54 rfl Try.call54 (by kernel_rfl) (by show _ ≤ (25 : Nat); simp) ?_)
  have q1 := hr.m2; have q2 := hr.m6; have q3 := hr.c2; have q4 := hr.c6
  have hll := hl.len
  have hcl : (cfgL l).length = 6 := cfgL_len (by omega)
  simp [Rul.av, cfgA]
  intro b2 hb2
  simp
  intro b3 hb3
  simp at hb3
  have q2' : (r.m : Int) ≤ 6 := by omega
  simp [hb3, hcl, q2, q2']
  refine awp_loop_g (γ := Nat) (fun i t h => (i ≤ r.m) ∧ t 2 = .ptr b2 0 ∧ t 5 = .int .i64 (numF r.c (l.take i) : Nat) ∧ t 10 = .osl b3 0 r.m 1 ∧ t 11 = .int .i64 r.m ∧ t 12 = .int .i64 i ∧ h = (AHeap.empty.upd b2 (.cells [.int .i64 r.m, .int .i64 r.c, rowsA r.next])).upd b3 (.cells (cfgL l))) (fun i => r.m - i) (0) (turnA_self (by simp [hb3, numF])) ?_
  rintro i t h ⟨hi, h2, h5, h10, h11, h12, rfl⟩
  by_cases hlt : i < r.m
  · have hwi : IntKind.i64.wrap ((i : Int) + 1) = (i : Int) + 1 := wrap_i64 (by omega) (by omega)
    have hil : i < l.length := by omega
    have hg := cfgL_get hil
    have hgd : colF l i = l[i] := by simp [colF, hil]
    have hi6 : i < 6 := by omega
    have ht := numF_take r.c l i hil
    have hb1 := num_take_le q3 q4 (by omega) hl.lt (i + 1)
    have hb0 := num_take_le q3 q4 (by omega) hl.lt i
    obtain ⟨x, hx⟩ : ∃ x, x = l[i] := ⟨_, rfl⟩
    rw [← hx] at ht hgd
    obtain ⟨n, hn⟩ : ∃ n, n = numF r.c (l.take i) := ⟨_, rfl⟩
    obtain ⟨n', hn'⟩ : ∃ n', n' = numF r.c (l.take (i + 1)) := ⟨_, rfl⟩
    rw [← hn, ← hn'] at ht
    rw [← hn'] at hb1
    rw [← hn] at hb0
    have v0 : IntKind.i64.wrap (x : Int) = x := wrap_i64 (by omega) (by omega)
    have v1 : IntKind.i64.wrap ((n : Int) * (r.c : Int)) = (n : Int) * (r.c : Int) := by rw [← Int.natCast_mul]; exact wrap_i64 (by omega) (by omega)
    have v2 : IntKind.i64.wrap ((n : Int) * (r.c : Int) + (x : Int)) = (n' : Int) := by rw [← Int.natCast_mul, ht]; rw [wrap_i64 (by omega) (by omega)]; omega
    rw [hgd] at hg
    simp [h2, h5, h10, h11, h12, hlt, hb3, ← hn, hg, hcl, v0, v1]
    refine turnA_self ⟨i + 1, by omega, by omega, by simp [h2, h5, h10, h11, h12, hwi, ← hn', v2]⟩
  · obtain rfl : i = r.m := by omega
    simp [h2, h5, h10, h11, h12]
    exact finA_drop (by rw [← hll, List.take_length])

/-! ### takes -/
theorem mod_lt' {a m : Nat} (h : 0 < m) : a % m < m := Nat.mod_lt _ h
theorem colF_lt {r : Rul} {l : List Nat} (hl : Cfg r l) (hr : r.ok) {i : Nat} (hi : i < r.m) : colF l i < r.c := by
  have : colF l i = l[i]'(by rw [hl.len]; exact hi) := by simp [colF, hl.len, hi]
  rw [this]; exact hl.lt _ (List.getElem_mem _)
theorem idx3_lt {c l o x : Nat} (h1 : l < c) (h2 : o < c) (h3 : x < c) : (l * c + o) * c + x < c * c * c := by
  have e1 : (l + 1) * c ≤ c * c := Nat.mul_le_mul_right _ h1
  rw [Nat.add_mul] at e1
  have e2 : (l * c + o + 1) * c ≤ c * c * c := Nat.mul_le_mul_right _ (by omega)
  rw [Nat.add_mul] at e2
  omega
theorem ccc_le {c : Nat} (h : c ≤ 6) : c * c * c ≤ 216 := by
  have e1 : c * c ≤ 6 * 6 := Nat.mul_le_mul h h
  have e2 : c * c * c ≤ 36 * 6 := Nat.mul_le_mul e1 h
  omega
theorem atF_lt {r : Rul} (hr : r.ok) {l : List Nat} (hl : Cfg r l) {i : Nat} (hi : i < r.m) : atF r l i < r.c * r.c * r.c := by
  have h0 : 0 < r.m := by omega
  exact idx3_lt (colF_lt hl hr (mod_lt' h0)) (colF_lt hl hr hi) (colF_lt hl hr (mod_lt' h0))
theorem takes_get {r : Rul} (hr : r.ok) {l : List Nat} (hl : Cfg r l) {i : Nat} (hi : i < r.m) : ∃ h1 h2, takesF r l i = (r.next[i]'h1)[atF r l i]'h2 := by
  have h1 : i < r.next.length := by rw [hr.nl]; exact hi
  have h2 : atF r l i < r.next[i].length := by rw [hr.rl _ (List.getElem_mem h1)]; exact atF_lt hr hl hi
  exact ⟨h1, h2, by simp [takesF, h1, h2]⟩
theorem takes_bd {r : Rul} (hr : r.ok) {l : List Nat} (hl : Cfg r l) {i : Nat} (hi : i < r.m) : -1 ≤ takesF r l i ∧ takesF r l i < r.c := by
  obtain ⟨h1, h2, e⟩ := takes_get hr hl hi
  rw [e]
  exact ⟨hr.lo _ (List.getElem_mem h1) _ (List.getElem_mem h2), hr.hi _ (List.getElem_mem h1) _ (List.getElem_mem h2)⟩
theorem w_takes (r : Rul) (hr : r.ok) (l : List Nat) (hl : Cfg r l) (i : Nat) (hi : i < r.m) : Pure Try.prog 56 [r.av, cfgA l, .int .i64 i] (.int .i64 (takesF r l i)) := by
  refine pure_of (acalls_of Try.func56 rfl Try.call56 (by kernel_rfl) (by show _ ≤ (51 : Nat); simp) ?_)
  have q1 := hr.m2; have q2 := hr.m6; have q3 := hr.c2; have q4 := hr.c6
  have hll := hl.len
  have hcl : (cfgL l).length = 6 := cfgL_len (by omega)
  have h0 : 0 < r.m := by omega
  obtain ⟨a, ha⟩ : ∃ a, a = (i + r.m - 1) % r.m := ⟨_, rfl⟩
  obtain ⟨b, hb⟩ : ∃ b, b = (i + 1) % r.m := ⟨_, rfl⟩
  have ham : a < r.m := by rw [ha]; exact mod_lt' h0
  have hbm : b < r.m := by rw [hb]; exact mod_lt' h0
  have ga := cfgL_get (l := l) (i := a) (by omega)
  have gi := cfgL_get (l := l) (i := i) (by omega)
  have gb := cfgL_get (l := l) (i := b) (by omega)
  have la := colF_lt hl hr ham
  have li := colF_lt hl hr hi
  have lb := colF_lt hl hr hbm
  have hat : atF r l i = (colF l a * r.c + colF l i) * r.c + colF l b := by unfold atF; rw [← ha, ← hb]
  obtain ⟨t1, t2, et⟩ := takes_get hr hl hi
  rw [et]
  have hatl := atF_lt hr hl hi
  have hccc := ccc_le q4
  have e3 := idx3_lt la li lb
  rw [← hat] at e3
  generalize colF l a = u at *
  generalize colF l i = v at *
  generalize colF l b = w at *
  generalize hA : atF r l i = A at *
  have v1 : IntKind.i64.wrap ((i : Int) + (r.m : Int)) = (i : Int) + (r.m : Int) := wrap_i64 (by omega) (by omega)
  obtain ⟨N1, hN1⟩ : ∃ N1, N1 = i + r.m - 1 := ⟨_, rfl⟩
  obtain ⟨N2, hN2⟩ : ∃ N2, N2 = i + 1 := ⟨_, rfl⟩
  rw [← hN1] at ha
  rw [← hN2] at hb
  have v2 : IntKind.i64.wrap ((i : Int) + (r.m : Int) - 1) = (N1 : Int) := by rw [wrap_i64 (by omega) (by omega)]; omega
  have v3 : (N1 : Int).tmod (r.m : Int) = (a : Int) := by rw [Int.tmod_eq_emod_of_nonneg (by omega), ha]; rfl
  have v4 : IntKind.i64.wrap ((i : Int) + 1) = (N2 : Int) := by rw [wrap_i64 (by omega) (by omega)]; omega
  have v5 : (N2 : Int).tmod (r.m : Int) = (b : Int) := by rw [Int.tmod_eq_emod_of_nonneg (by omega), hb]; rfl
  have z1 : IntKind.i64.wrap (u : Int) = u := wrap_i64 (by omega) (by omega)
  have z2 : IntKind.i64.wrap (v : Int) = v := wrap_i64 (by omega) (by omega)
  have z3 : IntKind.i64.wrap (w : Int) = w := wrap_i64 (by omega) (by omega)
  have b1 : u * r.c ≤ 6 * 6 := Nat.mul_le_mul (by omega) q4
  obtain ⟨p, hp⟩ : ∃ p, p = u * r.c := ⟨_, rfl⟩
  have y1 : IntKind.i64.wrap ((u : Int) * (r.c : Int)) = (p : Int) := by rw [← Int.natCast_mul, hp]; exact wrap_i64 (by omega) (by omega)
  rw [← hp] at b1 hat
  obtain ⟨p2, hp2⟩ : ∃ p2, p2 = p + v := ⟨_, rfl⟩
  have y2 : IntKind.i64.wrap ((p : Int) + (v : Int)) = (p2 : Int) := by rw [← Int.natCast_add, ← hp2]; exact wrap_i64 (by omega) (by omega)
  rw [← hp2] at hat
  have b2 : p2 * r.c ≤ 42 * 6 := Nat.mul_le_mul (by omega) q4
  obtain ⟨p3, hp3⟩ : ∃ p3, p3 = p2 * r.c := ⟨_, rfl⟩
  have y3 : IntKind.i64.wrap ((p2 : Int) * (r.c : Int)) = (p3 : Int) := by rw [← Int.natCast_mul, ← hp3]; exact wrap_i64 (by omega) (by omega)
  rw [← hp3] at b2 hat
  have y4 : IntKind.i64.wrap ((p3 : Int) + (w : Int)) = (A : Int) := by rw [← Int.natCast_add, ← hat]; exact wrap_i64 (by omega) (by omega)
  have hm0 : ¬ r.m = 0 := by omega
  have ham6 : (a : Int) < 6 := by omega
  have hbm6 : (b : Int) < 6 := by omega
  have hi6 : (i : Int) < 6 := by omega
  have hin : i < r.next.length := t1
  have hrl : r.next[i].length = r.c * r.c * r.c := hr.rl _ (List.getElem_mem t1)
  simp [Rul.av, cfgA]
  intro b3 hb3
  simp
  intro b4 hb4
  simp at hb4
  simp [hb4]
  refine awp_draw_text (by kernel_rfl) [] [] (by kernel_rfl) (by kernel_rfl) (by simp) ?_
  simp [hb4, hm0, v1, v2, v3, v4, v5, ham6, hbm6, hi6, ga, gi, gb, z1, z2, z3]
  refine awp_draw_text (by kernel_rfl) [] [] (by kernel_rfl) (by kernel_rfl) (by simp) ?_
  have e3' : (A : Int) < (r.c : Int) * r.c * r.c := by rw [← Int.natCast_mul, ← Int.natCast_mul]; omega
  simp [hb4, y1, y2, y3, y4, rowsA, intsA, hin, hrl, e3, e3']
  exact finA_drop rfl

/-! ### ready, step, listed -/
theorem ready_lt (r : Rul) (l : List Nat) : ∀ i ∈ readyF r l, i < r.m := fun i h => by
  simp only [readyF, List.mem_filter, List.mem_range] at h
  exact h.1
theorem ready_len (r : Rul) (l : List Nat) : (readyF r l).length ≤ r.m := by
  have := List.length_filter_le (fun i => decide (0 ≤ takesF r l i)) (List.range r.m)
  simpa [readyF] using this
/-- Ready among the first ones. -/
def readyK (r : Rul) (l : List Nat) (k : Nat) : List Nat := (List.range k).filter fun i => decide (0 ≤ takesF r l i)
theorem readyK_succ (r : Rul) (l : List Nat) (k : Nat) : readyK r l (k + 1) = if 0 ≤ takesF r l k then readyK r l k ++ [k] else readyK r l k := by
  unfold readyK
  rw [List.range_succ, List.filter_append]
  split
  · next h => simp [h]
  · next h => simp [h]
theorem readyK_len (r : Rul) (l : List Nat) (k : Nat) : (readyK r l k).length ≤ k := by
  have := List.length_filter_le (fun i => decide (0 ≤ takesF r l i)) (List.range k)
  simpa [readyK] using this
/-- A list of numbers that may be empty (then it is nil). -/
def listA (l : List Nat) : AV := if l = [] then .nilsl else natsA l
@[simp] theorem listA_one {l : List Nat} : (listA l).one = true := by unfold listA; split <;> rfl
@[simp] theorem listA_fit {l : List Nat} : (listA l).fit = true := by unfold listA; split <;> rfl
@[simp] theorem listA_cells {l : List Nat} : (listA l).cells = [listA l] := by unfold listA; split <;> rfl
@[simp] theorem listA_frozen {l : List Nat} : (listA l).frozen = true := by
  unfold listA
  split
  · rfl
  · exact natsA_frozen
@[simp] theorem frz_list {l : List Nat} {k : Nat} {h h' : AHeap} : frzF k h h' (listA l) = listA l := frz_frozen k _ listA_frozen
/-- A list grown by append, as it is handed back. -/
theorem frz_own {h h' : AHeap} {o : Option Nat} {l : List Nat} {n k : Nat} (hn : n = l.length) (e : o = none ↔ l = []) (hf : FreshO h' o) : frzF (k + 1) (h.updO o (l.map fun x : Nat => AV.int .i64 (x : Int))) h' (ownV o n 1) = listA l := by
  subst hn
  cases o with
  | none =>
    have := e.1 rfl
    subst this
    simp [listA]
  | some x =>
    have hne : ¬ l = [] := fun h => by have := e.2 h; cases this
    have hf' : Fresh h' x := hf
    rw [ownV_some, frz_osl hf', listA, if_neg hne]
    simp [natsA, List.take_of_length_le]
theorem finA_list {R : AV → AHeap → Prop} {h : AHeap} {o : Option Nat} {l : List Nat} {n : Nat} (hn : n = l.length) (e : o = none ↔ l = []) (q : R (listA l) AHeap.empty) : finA R (ownV o n 1) (h.updO o (l.map fun x : Nat => AV.int .i64 (x : Int))) := by
  refine finA_all 1 ?_
  rw [frz_own hn e (by simp)]
  exact q
theorem w_ready (r : Rul) (hr : r.ok) (l : List Nat) (hl : Cfg r l) : Pure Try.prog 51 [r.av, cfgA l] (listA (readyF r l)) := by
  refine pure_of (acalls_of Try.func51 rfl Try.call51 (by kernel_rfl) (by show _ ≤ (23 : Nat); simp) ?_)
  have q2 := hr.m6
  have hcl : (cfgL l).length = 6 := cfgL_len (by have := hl.len; omega)
  have ct := w_takes r hr l hl
  simp only [Rul.av, cfgA] at ct ⊢
  simp
  intro b2 hb2
  simp
  intro b3 hb3
  simp at hb3
  simp [hb3]
  refine awp_loop_g (γ := At) (fun q t h => (q.i ≤ r.m) ∧ ((q.o = none ↔ readyK r l q.i = []) ∧ ¬ q.o = some b2 ∧ ¬ q.o = some b3) ∧ t 2 = .ptr b2 0 ∧ t 3 = .ptr b3 0 ∧ t 5 = ownV q.o (readyK r l q.i).length 1 ∧ t 8 = .int .i64 r.m ∧ t 9 = .int .i64 q.i ∧ h = ((AHeap.empty.upd b2 (.cells [.int .i64 r.m, .int .i64 r.c, rowsA r.next])).upd b3 (.cells (cfgL l))).updO q.o ((readyK r l q.i).map fun x : Nat => AV.int .i64 (x : Int))) (fun q => r.m - q.i) (⟨0, none⟩) (turnA_self (by simp [hb3, readyK])) ?_
  rintro q t h ⟨hi, ho, h2, h3, h5, h8, h9, rfl⟩
  obtain ⟨i, o⟩ := q
  simp only at h2 h3 h5 h8 h9 hi ho
  obtain ⟨ho1, ho2, ho3⟩ := ho
  by_cases hlt : i < r.m
  · have hwi : IntKind.i64.wrap ((i : Int) + 1) = (i : Int) + 1 := wrap_i64 (by omega) (by omega)
    have hs := readyK_succ r l i
    have hkl := readyK_len r l i
    have htk : (cfgL l).take 6 = cfgL l := List.take_of_length_le (by omega)
    simp [h2, h3, h5, h8, h9, hlt, hb3, hcl, htk, ho2, ho3]
    refine (ct i hlt).use ?_
    by_cases hp : 0 ≤ takesF r l i
    · rw [if_pos hp] at hs
      simp [h2, h3, h5, h8, h9, hp]
      intro b1 hb1
      simp [ho2, ho3] at hb1
      simp [h2, h3, h5, h8, h9, hb1]
      refine appendA_updO (by omega) (by omega) (by simpa using ho1.1) (by simp) (by simp) (by simp [ho2, ho3, hb1]) fun b' hb' => ?_
      · simp at hb'
        simp [h2, h3, h5, h8, h9, hb1, hb']
        refine turnA_to (((AHeap.empty.upd b2 (.cells [.int .i64 r.m, .int .i64 r.c, rowsA r.next])).upd b3 (.cells (cfgL l))).updO (some b') ((readyK r l (i + 1)).map fun x : Nat => AV.int .i64 (x : Int))) ?_ ⟨⟨i + 1, some b'⟩, by simp only; omega, by simp only; omega, by simp [hs, hb'], by simp [h2, h3, h5, h8, h9, hwi, hs, hb']⟩
        rw [hs]
        simp
        exact Drop.both (Drop.new (Drop.refl _) (by simp [hb1]))
    · rw [if_neg hp] at hs
      simp [h2, h3, h5, h8, h9, hp]
      exact turnA_self ⟨⟨i + 1, o⟩, by simp only; omega, by simp only; omega, by simp [hs, ho1, ho2, ho3], by simp [h2, h3, h5, h8, h9, hwi, hs]⟩
  · obtain rfl : i = r.m := by omega
    simp [h2, h3, h5, h8, h9]
    have hrk : readyK r l r.m = readyF r l := rfl
    rw [hrk] at ho1 ⊢
    exact finA_list rfl ho1 rfl
end Go.Proofs

end

section
/-
  Ring: walks of step, listed, Check, configOf.
-/
namespace Go.Proofs
open Go Go.AH
set_option maxRecDepth 10000
set_option maxHeartbeats 4000000

/-! ### step -/
theorem stepF_len (r : Rul) (l ms : List Nat) : (stepF r l ms).length = l.length := by
  have : ∀ (ms : List Nat) (out : List Nat), (ms.foldl (fun out i => out.set i (takesF r l i).toNat) out).length = out.length := by
    intro ms
    induction ms with
    | nil => intro out; rfl
    | cons i ms ih => intro out; simp [ih]
  exact this ms l
theorem stepF_take (r : Rul) (l ms : List Nat) (k : Nat) (hk : k < ms.length) : stepF r l (ms.take (k + 1)) = (stepF r l (ms.take k)).set ms[k] (takesF r l ms[k]).toNat := by
  unfold stepF
  rw [List.take_succ_eq_append_getElem hk, List.foldl_append]
  rfl
theorem cfgL_set {l : List Nat} {i x : Nat} (hi : i < l.length) : (cfgL l).set i (.int .u8 (x : Int)) = cfgL (l.set i x) := by
  unfold cfgL
  rw [List.length_set, List.map_append, List.map_append, List.set_append_left _ _ (by simpa using hi), List.map_set]
theorem step_cfg {r : Rul} (hr : r.ok) {l : List Nat} (hl : Cfg r l) {ms : List Nat} (hms : ∀ i ∈ ms, i < r.m ∧ 0 ≤ takesF r l i) : Cfg r (stepF r l ms) := by
  refine ⟨by rw [stepF_len, hl.len], ?_⟩
  have : ∀ (ms : List Nat) (out : List Nat), (∀ i ∈ ms, i < r.m ∧ 0 ≤ takesF r l i) → (∀ x ∈ out, x < r.c) → ∀ x ∈ ms.foldl (fun out i => out.set i (takesF r l i).toNat) out, x < r.c := by
    intro ms
    induction ms with
    | nil => intro out _ h; exact h
    | cons i ms ih =>
      intro out hm ho
      refine ih _ (fun j hj => hm j (by simp [hj])) fun x hx => ?_
      rcases List.mem_or_eq_of_mem_set hx with h | rfl
      · exact ho x h
      · obtain ⟨h1, h2⟩ := hm i (by simp)
        have := takes_bd hr hl h1
        omega
  exact this ms l hms hl.lt
theorem w_step (r : Rul) (hr : r.ok) (l : List Nat) (hl : Cfg r l) (ms : List Nat) (hms : ∀ i ∈ ms, i < r.m ∧ 0 ≤ takesF r l i) (hml : ms.length ≤ 1000000) : Pure Try.prog 52 [r.av, cfgA l, natsA ms] (cfgA (stepF r l ms)) := by
  refine pure_of (acalls_of Try.func52 rfl Try.call52 (by kernel_rfl) (by show _ ≤ (26 : Nat); simp) ?_)
  have q2 := hr.m6; have q4 := hr.c6
  have hll := hl.len
  have hcl : ∀ l' : List Nat, l'.length = r.m → (cfgL l').length = 6 := fun l' h => cfgL_len (by omega)
  have htk : ∀ l' : List Nat, l'.length = r.m → (cfgL l').take 6 = cfgL l' := fun l' h => List.take_of_length_le (by rw [hcl l' h]; omega)
  have hsl : ∀ ms, (stepF r l ms).length = r.m := fun ms => by rw [stepF_len, hll]
  have hz : ∀ l' : List Nat, l'.length = r.m → splice [.int .u8 0, .int .u8 0, .int .u8 0, .int .u8 0, .int .u8 0, .int .u8 0] 0 (cfgL l') = cfgL l' := fun l' h => splice_all (by rw [hcl l' h]; rfl)
  have ct := w_takes r hr l hl
  simp only [Rul.av, cfgA] at ct ⊢
  simp
  intro b3 hb3
  simp
  intro b4 hb4
  simp at hb4
  simp [hb4]
  intro b6 hb6
  simp at hb6
  simp [hb4, hb6, hcl l hll, htk l hll]
  intro b7 hb7
  simp at hb7
  simp [hb4, hb6, hb7, hcl l hll, hz l hll, natsA]
  refine awp_loop_g (γ := Nat) (fun k t h => (k ≤ ms.length) ∧ t 3 = .ptr b3 0 ∧ t 4 = .ptr b4 0 ∧ t 6 = .ptr b6 0 ∧ t 7 = .ptr b7 0 ∧ t 11 = .sl ms.length (ms.map fun x : Nat => AV.int .i64 (x : Int)) ∧ t 12 = .int .i64 ms.length ∧ t 13 = .int .i64 k ∧ h = (((AHeap.empty.upd b3 (.cells [.int .i64 r.m, .int .i64 r.c, rowsA r.next])).upd b4 (.cells (cfgL l))).upd b6 (.cells [.int .u8 0, .int .u8 0, .int .u8 0, .int .u8 0, .int .u8 0, .int .u8 0])).upd b7 (.cells (cfgL (stepF r l (ms.take k))))) (fun k => ms.length - k) (0) (turnA_self (by simp [hb4, hb6, hb7, stepF])) ?_
  rintro k t h ⟨hk, h3, h4, h6, h7, h11, h12, h13, rfl⟩
  by_cases hlt : k < ms.length
  · have hwk : IntKind.i64.wrap ((k : Int) + 1) = (k : Int) + 1 := wrap_i64 (by omega) (by omega)
    have hst := stepF_take r l ms k hlt
    obtain ⟨hmi, hmt⟩ := hms ms[k] (List.getElem_mem hlt)
    obtain ⟨i, hi⟩ : ∃ i, i = ms[k] := ⟨_, rfl⟩
    rw [← hi] at hst hmi hmt
    have hbd := takes_bd hr hl hmi
    have hlen := hsl (ms.take k)
    obtain ⟨x, hx⟩ : ∃ x : Nat, x = (takesF r l i).toNat := ⟨_, rfl⟩
    have hxi : takesF r l i = (x : Int) := by omega
    have cti := ct i hmi
    rw [hxi] at cti
    rw [← hx] at hst
    have hset := cfgL_set (l := stepF r l (ms.take k)) (i := i) (x := x) (by omega)
    have hsp := splice_one (l := cfgL (stepF r l (ms.take k))) (i := i) (v := AV.int .u8 (x : Int)) (by rw [hcl _ hlen]; omega)
    have v3 : IntKind.u8.wrap (x : Int) = x := wrap_u8 (by omega) (by omega)
    have hi6 : (i : Int) < 6 := by omega
    have hi6' : i + 1 ≤ 6 := by omega
    simp [h3, h4, h6, h7, h11, h12, h13, hlt, ← hi, hb4, hb6, hb7, hcl l hll, htk l hll]
    refine cti.use ?_
    simp [h3, h4, h6, h7, h11, h12, h13, hi6, hi6', v3, hcl _ hlen, hb4, hb6, hb7]
    exact turnA_self ⟨k + 1, by omega, by omega, by simp [h3, h4, h6, h7, h11, h12, h13, hwk, hst, hsp, hset]⟩
  · obtain rfl : k = ms.length := by omega
    simp [h3, h4, h6, h7, h11, h12, h13, hb4, hb6, hb7, hcl _ (hsl ms), htk _ (hsl ms), hz _ (hsl ms)]
    exact finA_drop rfl

/-! ### listed -/
theorem w_listed (r : Rul) (hr : r.ok) (l : List Nat) (hl : Cfg r l) : Pure Try.prog 53 [r.av, cfgA l] (natsA l) := by
  refine pure_of (acalls_of Try.func53 rfl Try.call53 (by kernel_rfl) (by show _ ≤ (23 : Nat); simp) ?_)
  have q1 := hr.m2; have q2 := hr.m6; have q4 := hr.c6
  have q2' : (r.m : Int) ≤ 6 := by omega
  have hll := hl.len
  have hcl : (cfgL l).length = 6 := cfgL_len (by omega)
  have hne : ¬ l = [] := by intro e; rw [e] at hll; simp at hll; omega
  simp only [Rul.av, cfgA]
  simp
  intro b2 hb2
  simp
  intro b3 hb3
  simp at hb3
  simp [hb3, hcl, q2, q2']
  refine awp_loop_g (γ := At) (fun q t h => (q.i ≤ r.m) ∧ ((q.o = none ↔ l.take q.i = []) ∧ ¬ q.o = some b2 ∧ ¬ q.o = some b3) ∧ t 5 = ownV q.o q.i 1 ∧ t 10 = .osl b3 0 r.m 1 ∧ t 11 = .int .i64 r.m ∧ t 12 = .int .i64 q.i ∧ h = ((AHeap.empty.upd b2 (.cells [.int .i64 r.m, .int .i64 r.c, rowsA r.next])).upd b3 (.cells (cfgL l))).updO q.o ((l.take q.i).map fun x : Nat => AV.int .i64 (x : Int))) (fun q => r.m - q.i) (⟨0, none⟩) (turnA_self (by simp [hb3])) ?_
  rintro q t h ⟨hi, ho, h5, h10, h11, h12, rfl⟩
  obtain ⟨i, o⟩ := q
  simp only at h5 h10 h11 h12 hi ho
  obtain ⟨ho1, ho2, ho3⟩ := ho
  by_cases hlt : i < r.m
  · have hwi : IntKind.i64.wrap ((i : Int) + 1) = (i : Int) + 1 := wrap_i64 (by omega) (by omega)
    have hil : i < l.length := by omega
    have hg := cfgL_get hil
    have hgd : colF l i = l[i] := by simp [colF, hil]
    have hi6 : i < 6 := by omega
    have hts : l.take (i + 1) = l.take i ++ [l[i]] := List.take_succ_eq_append_getElem hil
    have hxc := hl.lt _ (List.getElem_mem hil)
    rw [hgd] at hg
    generalize l[i] = x at *
    have v0 : IntKind.i64.wrap (x : Int) = x := wrap_i64 (by omega) (by omega)
    simp [h5, h10, h11, h12, hlt, hb3, ho2, ho3, hg, hcl, v0]
    intro b1 hb1
    simp [ho2, ho3] at hb1
    simp [h5, h10, h11, h12, hb1]
    refine appendA_updO (by omega) (by omega) (fun e => by simpa using ho1.1 e) (by simp; omega) (by simp) (by simp [ho2, ho3, hb1]) fun b' hb' => ?_
    simp at hb'
    simp [h5, h10, h11, h12, hb1, hb']
    refine turnA_to (((AHeap.empty.upd b2 (.cells [.int .i64 r.m, .int .i64 r.c, rowsA r.next])).upd b3 (.cells (cfgL l))).updO (some b') ((l.take (i + 1)).map fun x : Nat => AV.int .i64 (x : Int))) ?_ ⟨⟨i + 1, some b'⟩, by simp only; omega, by simp only; omega, by simp [hts, hb', hne], by simp [h5, h10, h11, h12, hwi, hb']⟩
    rw [hts]
    simp
    exact Drop.both (Drop.new (Drop.refl _) (by simp [hb1]))
  · obtain rfl : i = r.m := by omega
    have hta : l.take r.m = l := List.take_of_length_le (by omega)
    rw [hta] at ho1
    simp [h5, h10, h11, h12, hta]
    refine finA_list hll.symm ho1 ?_
    simp [listA, hne]
end Go.Proofs

end

section
/-
  Ring: walks of Check, configOf and what stands on them.
-/
namespace Go.Proofs
open Go Go.AH
set_option maxRecDepth 10000
set_option maxHeartbeats 4000000

/-- The first place whose number passes the test, or -1. -/
def idxI (l : List Int) (p : Int → Bool) : Int := if l.any p then ((l.findIdx p : Nat) : Int) else -1
def anyI (l : List Int) (p : Int → Bool) : Bool := l.any p
theorem w_indexFunc (l : List Int) (hl : l.length ≤ 4611686018427387904) (f : AV) (p : Int → Bool) (H : AHeap) (hp : ∀ x ∈ l, ACallV Try.prog f [.int .i64 x] H fun r h' => r = .bool (p x) ∧ h' = H) :
    ACalls Try.prog 72 [intsA l, f] H fun r h' => r = .int .i64 (idxI l p) ∧ h' = H := by
  refine acalls_of Try.func72 rfl Try.call72 (by kernel_rfl) (by show _ ≤ (19 : Nat); simp) ?_
  simp [intsA]
  refine awp_loop_g (γ := Nat) (fun k t h => (k ≤ l.length) ∧ (∀ i (hi : i < l.length), i < k → p l[i] = false) ∧ t 0 = .sl l.length (l.map (.int .i64)) ∧ t 1 = f ∧ t 7 = .int .i64 l.length ∧ t 8 = .int .i64 k ∧ h = H) (fun k => l.length - k) (0) (turnA_self (by simp)) ?_
  rintro k t h ⟨hk, hno, h0, h1, h7, h8, rfl⟩
  by_cases hlt : k < l.length
  · have hw : IntKind.i64.wrap ((k : Int) + 1) = (k : Int) + 1 := wrap_i64 (by omega) (by omega)
    simp [h0, h1, h7, h8, hlt]
    refine (hp _ (List.getElem_mem hlt)).use ?_
    simp
    refine condA_case ?_ ?_
    · intro hpk
      have h1' : l.any p = true := List.any_eq_true.2 ⟨l[k], List.getElem_mem hlt, hpk⟩
      have h2 : l.findIdx p = k := by
        rw [List.findIdx_eq hlt]
        exact ⟨hpk, fun i hi => hno i (by omega) hi⟩
      simp [h0, h1, h7, h8]
      refine finA_self ⟨?_, rfl⟩
      rw [idxI, if_pos h1', h2]
    · intro hpk
      simp [h0, h1, h7, h8]
      exact turnA_self ⟨k + 1, by omega, by omega, fun i hi hik => by
        by_cases e : i = k
        · subst e; exact hpk
        · exact hno i hi (by omega), by simp [h0, h1, h7, h8, hw]⟩
  · obtain rfl : k = l.length := by omega
    have h1' : l.any p = false := by
      rw [List.any_eq_false]
      intro x hx
      obtain ⟨i, hi, rfl⟩ := List.mem_iff_getElem.1 hx
      simp [hno i hi hi]
    simp [h0, h1, h7, h8]
    refine finA_self ⟨?_, rfl⟩
    rw [idxI, h1']; rfl
theorem w_containsFunc (l : List Int) (hl : l.length ≤ 4611686018427387904) (f : AV) (p : Int → Bool) (H : AHeap) (hp : ∀ x ∈ l, ACallV Try.prog f [.int .i64 x] H fun r h' => r = .bool (p x) ∧ h' = H) :
    ACalls Try.prog 49 [intsA l, f] H fun r h' => r = .bool (anyI l p) ∧ h' = H := by
  refine acalls_of Try.func49 rfl Try.call49 (by kernel_rfl) (by show _ ≤ (9 : Nat); simp) ?_
  simp
  refine (w_indexFunc l hl f p H hp).use ?_
  simp
  refine finA_self ⟨?_, rfl⟩
  by_cases h : l.any p = true
  · rw [idxI, anyI, if_pos h, h]; simp
  · have h' : l.any p = false := by simpa using h
    rw [idxI, anyI, if_neg h, h']; simp

/-- A list of whole numbers that may be nil. -/
def listI (l : List Int) : AV := if l = [] then .nilsl else intsA l
theorem listI_ne {l : List Int} (h : ¬ l = []) : listI l = intsA l := if_neg h

theorem w_Check (r : Rul) (hr : r.ok) : Pure Try.prog 45 [r.av] (.int .i64 0) := by
  refine pure_of (acalls_of Try.func45 rfl Try.call45 (by kernel_rfl) (by show _ ≤ (67 : Nat); simp) ?_)
  have q1 := hr.m2; have q2 := hr.m6; have q3 := hr.c2; have q4 := hr.c6; have q5 := hr.sz
  have cs := w_size r.m r.c q1 q2 q3 q4 q5
  have hp := pw_pos (c := r.c) (by omega) r.m
  have hp0 : ¬ pw r.c r.m = 0 := by omega
  have hnl := hr.nl
  simp only [Rul.av]
  simp
  intro b1 hb1
  simp
  refine cs.use ?_
  simp [hp0, rowsA, hnl]
  obtain ⟨cc, hcc⟩ : ∃ cc, cc = r.c * r.c := ⟨_, rfl⟩
  obtain ⟨ccc, hccc⟩ : ∃ ccc, ccc = cc * r.c := ⟨_, rfl⟩
  have b36 : cc ≤ 6 * 6 := by rw [hcc]; exact Nat.mul_le_mul q4 q4
  have b216 : ccc ≤ 36 * 6 := by rw [hccc]; exact Nat.mul_le_mul b36 q4
  have y1 : IntKind.i64.wrap ((r.c : Int) * (r.c : Int)) = (cc : Int) := by rw [← Int.natCast_mul, ← hcc]; exact wrap_i64 (by omega) (by omega)
  have y2 : IntKind.i64.wrap ((cc : Int) * (r.c : Int)) = (ccc : Int) := by rw [← Int.natCast_mul, ← hccc]; exact wrap_i64 (by omega) (by omega)
  have hc0 : ¬ r.c = 0 := by omega
  refine awp_loop_g (γ := Nat) (fun i t h => (i ≤ r.m) ∧ t 1 = .ptr b1 0 ∧ t 22 = .sl r.m (r.next.map intsA) ∧ t 23 = .int .i64 r.m ∧ t 24 = .int .i64 i ∧ h = AHeap.empty.upd b1 (.cells [.int .i64 r.m, .int .i64 r.c, .sl r.m (r.next.map intsA)])) (fun i => r.m - i) (0) (turnA_self (by simp)) ?_
  rintro i t h ⟨hi, h1, h22, h23, h24, rfl⟩
  by_cases hlt : i < r.m
  · have hwi : IntKind.i64.wrap ((i : Int) + 1) = (i : Int) + 1 := wrap_i64 (by omega) (by omega)
    have hin : i < r.next.length := by omega
    have hrl : r.next[i].length = ccc := by rw [hr.rl _ (List.getElem_mem hin), hccc, hcc]
    obtain ⟨row, hrow⟩ : ∃ row, row = r.next[i] := ⟨_, rfl⟩
    have hrm : row ∈ r.next := by rw [hrow]; exact List.getElem_mem hin
    rw [← hrow] at hrl
    have hrow' : r.next[i]'hin = row := hrow.symm
    have hne : ∀ k (hk : k < row.length), ¬ row[k] = ((k / r.c % r.c : Nat) : Int) := fun k hk => by
      have := hr.ne i k
      rw [show r.next.getD i [] = row from by simp [hin, hrow], show row.getD k (-1) = row[k] from by simp [hk]] at this
      exact this
    simp [h1, h22, h23, h24, hlt, hnl, intsA, hrow', y1, y2, hrl]
    refine awp_loop_g (γ := Nat) (fun k t h => (k ≤ ccc) ∧ t 1 = .ptr b1 0 ∧ t 22 = .sl r.m (r.next.map intsA) ∧ t 23 = .int .i64 r.m ∧ t 24 = .int .i64 i ∧ t 39 = .sl ccc (row.map (.int .i64)) ∧ t 40 = .int .i64 ccc ∧ t 41 = .int .i64 k ∧ h = AHeap.empty.upd b1 (.cells [.int .i64 r.m, .int .i64 r.c, .sl r.m (r.next.map intsA)])) (fun k => ccc - k) (0) (turnA_self (by simp [h1, h22, h23, h24])) ?_
    rintro k t h ⟨hk, h1, h22, h23, h24, h39, h40, h41, rfl⟩
    by_cases hltk : k < ccc
    · have hwk : IntKind.i64.wrap ((k : Int) + 1) = (k : Int) + 1 := wrap_i64 (by omega) (by omega)
      have hkr : k < row.length := by omega
      have x1 := hr.lo _ hrm _ (List.getElem_mem hkr)
      have x2 := hr.hi _ hrm _ (List.getElem_mem hkr)
      have x3 := hne k hkr
      obtain ⟨x, hx⟩ : ∃ x, x = row[k] := ⟨_, rfl⟩
      have hx' : row[k]'hkr = x := hx.symm
      rw [← hx] at x1 x2 x3
      have n1 : ¬ x < -1 := by omega
      have n2 : ¬ (r.c : Int) ≤ x := by omega
      have hdl : k / r.c ≤ k := Nat.div_le_self _ _
      obtain ⟨d, hd⟩ : ∃ d, d = k / r.c := ⟨_, rfl⟩
      rw [← hd] at hdl x3
      have v1 : (k : Int).tdiv (r.c : Int) = (d : Int) := by rw [Int.tdiv_eq_ediv_of_nonneg (by omega), hd]; rfl
      have v2 : IntKind.i64.wrap (d : Int) = d := wrap_i64 (by omega) (by omega)
      obtain ⟨e, he⟩ : ∃ e, e = d % r.c := ⟨_, rfl⟩
      rw [← he] at x3
      have v3 : (d : Int).tmod (r.c : Int) = (e : Int) := by rw [Int.tmod_eq_emod_of_nonneg (by omega), he]; rfl
      simp [h1, h22, h23, h24, h39, h40, h41, hltk, hrl, hx']
      refine awp_draw_text (by kernel_rfl) [] [] (by kernel_rfl) (by kernel_rfl) (by simp) ?_
      simp [h1, h22, h23, h24, h39, h40, h41, n1, n2, hc0, v1, v2, v3, x3]
      exact turnA_self ⟨k + 1, by omega, by omega, by simp [h1, h22, h23, h24, h39, h40, h41, hwk]⟩
    · obtain rfl : k = ccc := by omega
      simp [h1, h22, h23, h24, h39, h40, h41]
      exact turnA_self ⟨i + 1, by omega, by omega, by simp [h1, h22, h23, h24, h39, h40, h41, hwi]⟩
  · obtain rfl : i = r.m := by omega
    simp [h1, h22, h23, h24]
    exact finA_drop rfl
end Go.Proofs

end

section
/-
  Ring: walks of configOf, Number, Ready, Config.
-/
namespace Go.Proofs
open Go Go.AH
set_option maxRecDepth 10000
set_option maxHeartbeats 4000000

def natI (l : List Int) : List Nat := l.map Int.toNat
@[simp] theorem natI_len (l : List Int) : (natI l).length = l.length := by simp [natI]
def badC (c : Nat) (x : Int) : Bool := decide (x < 0) || decide ((c : Int) ≤ x)
/-- What is wrong with a configuration. -/
def confE (r : Rul) (l : List Int) : Int := if ¬ l.length = r.m then 7 else if l.any (badC r.c) then 1 else 0
def confA (r : Rul) (l : List Int) : AV := .tup [if confE r l = 0 then cfgA (natI l) else cfgA [], .int .i64 (confE r l)]
theorem conf_cfg {r : Rul} {l : List Int} (h : confE r l = 0) : Cfg r (natI l) := by
  unfold confE at h
  split at h
  · cases h
  · next hl =>
    split at h
    · cases h
    · next hb =>
      refine ⟨by simp only [Decidable.not_not] at hl; simp [hl], fun x hx => ?_⟩
      obtain ⟨y, hy, rfl⟩ := List.mem_map.1 hx
      have hb' : l.any (badC r.c) = false := by simpa using hb
      have := List.any_eq_false.1 hb' y hy
      simp only [badC, Bool.or_eq_true, decide_eq_true_eq, not_or] at this
      omega
theorem cfgL_snoc {l : List Nat} {x : Nat} (h : l.length < 6) : (cfgL l).set l.length (.int .u8 (x : Int)) = cfgL (l ++ [x]) := by
  refine List.ext_getElem (by simp [cfgL]; omega) fun j h1 h2 => ?_
  rw [List.getElem_set]
  simp only [cfgL, List.getElem_map]
  by_cases e : l.length = j
  · subst e; simp
  · rw [if_neg e]
    congr 2
    rw [List.getElem_append, List.getElem_append]
    by_cases hj : j < l.length
    · rw [dif_pos hj, dif_pos (by simp; omega), List.getElem_append_left hj]
    · rw [dif_neg hj, dif_neg (by simp; omega), List.getElem_replicate, List.getElem_replicate]
theorem cfgL_nil : cfgL [] = [.int .u8 0, .int .u8 0, .int .u8 0, .int .u8 0, .int .u8 0, .int .u8 0] := rfl
theorem w_configOf (r : Rul) (hr : r.ok) (l : List Int) (hl : l.length ≤ 1000000) : Pure Try.prog 48 [r.av, listI l] (confA r l) := by
  refine pure_of (acalls_of Try.func48 rfl Try.call48 (by kernel_rfl) (by show _ ≤ (44 : Nat); simp) ?_)
  have q1 := hr.m2; have q2 := hr.m6; have q4 := hr.c6
  have cc := w_Check r hr
  simp only [Rul.av] at cc ⊢
  by_cases hnil : l = []
  · subst hnil
    have e7 : confE r [] = 7 := by unfold confE; rw [if_pos (by simp; omega)]
    have hm0 : ¬ (r.m : Int) = 0 := by omega
    have hm0' : ¬ r.m = 0 := by omega
    have hm0'' : ¬ 0 = r.m := by omega
    have hm03 : ¬ (0 : Int) = (r.m : Int) := by omega
    simp [listI, confA, e7]
    intro b2 hb2
    simp
    intro b4 hb4
    simp at hb4
    simp [hb4]
    refine cc.use ?_
    simp [hb4, hm0, hm0', hm0'', hm03]
    refine finA_drop ?_
    rw [confA, e7, if_neg (by omega)]; rfl
  · rw [listI_ne hnil]
    simp [intsA]
    intro b2 hb2
    simp
    intro b4 hb4
    simp at hb4
    simp [hb4]
    refine cc.use ?_
    by_cases hlen : l.length = r.m
    · have hlenI : (l.length : Int) = r.m := by omega
      simp [hb4, hlen]
      intro b7 hb7
      simp at hb7
      simp [hb4, hb7]
      refine awp_loop_g (γ := Nat) (fun k t h => (k ≤ r.m) ∧ (∀ i (hi : i < l.length), i < k → badC r.c l[i] = false) ∧ t 2 = .ptr b2 0 ∧ t 4 = .ptr b4 0 ∧ t 7 = .ptr b7 0 ∧ t 22 = .sl r.m (l.map (.int .i64)) ∧ t 23 = .int .i64 r.m ∧ t 24 = .int .i64 k ∧ h = ((AHeap.empty.upd b2 (.cells [.int .i64 r.m, .int .i64 r.c, rowsA r.next])).upd b4 (.cells [.int .u8 0, .int .u8 0, .int .u8 0, .int .u8 0, .int .u8 0, .int .u8 0])).upd b7 (.cells (cfgL (natI (l.take k))))) (fun k => r.m - k) (0) (turnA_self (by simp [hb4, hb7, natI, cfgL_nil])) ?_
      rintro k t h ⟨hk, hgood, h2, h4, h7, h22, h23, h24, rfl⟩
      have hcl : ∀ l' : List Nat, l'.length ≤ 6 → (cfgL l').length = 6 := fun l' h => cfgL_len h
      have hz : ∀ l' : List Nat, l'.length ≤ 6 → splice [.int .u8 0, .int .u8 0, .int .u8 0, .int .u8 0, .int .u8 0, .int .u8 0] 0 (cfgL l') = cfgL l' := fun l' h => splice_all (by rw [hcl l' h]; rfl)
      have hsix : splice [AV.int .u8 0, .int .u8 0, .int .u8 0, .int .u8 0, .int .u8 0, .int .u8 0] 0 [.int .u8 0, .int .u8 0, .int .u8 0, .int .u8 0, .int .u8 0, .int .u8 0] = [.int .u8 0, .int .u8 0, .int .u8 0, .int .u8 0, .int .u8 0, .int .u8 0] := rfl
      by_cases hlt : k < r.m
      · have hwk : IntKind.i64.wrap ((k : Int) + 1) = (k : Int) + 1 := wrap_i64 (by omega) (by omega)
        have hkl : k < l.length := by omega
        have hk6 : (k : Int) < 6 := by omega
        have hk6' : k + 1 ≤ 6 := by omega
        have htl : (natI (l.take k)).length = k := by simp; omega
        have hts : natI (l.take (k + 1)) = natI (l.take k) ++ [l[k].toNat] := by unfold natI; rw [List.take_succ_eq_append_getElem hkl, List.map_append]; rfl
        obtain ⟨x, hx⟩ : ∃ x, x = l[k] := ⟨_, rfl⟩
        have hx' : l[k]'hkl = x := hx.symm
        rw [hx'] at hts
        by_cases hbad : badC r.c x = true
        · have e1 : confE r l = 1 := by
            unfold confE
            rw [if_neg (by omega), if_pos (List.any_eq_true.2 ⟨x, by rw [hx]; exact List.getElem_mem hkl, hbad⟩)]
          have hxb := hbad
          simp only [badC, Bool.or_eq_true, decide_eq_true_eq] at hxb
          rcases hxb with n1 | n1
          · simp [h2, h4, h7, h22, h23, h24, hlt, hkl, hx', n1, hb4, hb7, hsix]
            refine finA_drop ?_
            simp [confA, e1, cfgA, cfgL_nil]
          · have n0 : ¬ x < 0 := by omega
            simp [h2, h4, h7, h22, h23, h24, hlt, hkl, hx', n0, n1, hb4, hb7, hsix]
            refine finA_drop ?_
            simp [confA, e1, cfgA, cfgL_nil]
        · have hxb := hbad
          simp only [badC, Bool.or_eq_true, decide_eq_true_eq, not_or] at hxb
          obtain ⟨n0, n1⟩ := hxb
          obtain ⟨y, hy⟩ : ∃ y : Nat, y = x.toNat := ⟨_, rfl⟩
          have hxy : x = (y : Int) := by omega
          have v3 : IntKind.u8.wrap x = (y : Int) := by rw [hxy]; exact wrap_u8 (by omega) (by omega)
          rw [← hy] at hts
          have hset := cfgL_snoc (l := natI (l.take k)) (x := y) (by omega)
          rw [htl, ← hts] at hset
          have hsp := splice_one (l := cfgL (natI (l.take k))) (i := k) (v := AV.int .u8 (y : Int)) (by rw [hcl _ (by omega)]; omega)
          simp [h2, h4, h7, h22, h23, h24, hlt, hkl, hx', n0, n1, hb4, hb7, hk6, hk6', v3, hcl _ (show (natI (l.take k)).length ≤ 6 by omega)]
          refine turnA_self ⟨k + 1, by omega, by omega, fun i hi hik => ?_, by simp [h2, h4, h7, h22, h23, h24, hwk, hsp, hset]⟩
          by_cases e : i = k
          · subst e; rw [hx']; simpa using hbad
          · exact hgood i hi (by omega)
      · obtain rfl : k = r.m := by omega
        have hta : l.take r.m = l := List.take_of_length_le (by omega)
        have e0 : confE r l = 0 := by
          unfold confE
          rw [if_neg (by omega)]
          have : l.any (badC r.c) = false := by
            rw [List.any_eq_false]
            intro x hx
            obtain ⟨i, hi, rfl⟩ := List.mem_iff_getElem.1 hx
            simp [hgood i hi (by omega)]
          rw [this]; rfl
        have hl6 : (natI l).length ≤ 6 := by simp; omega
        have htk : (cfgL (natI l)).take 6 = cfgL (natI l) := List.take_of_length_le (by rw [hcl _ hl6]; omega)
        simp [h2, h4, h7, h22, h23, h24, hta, hb4, hb7, hcl _ hl6, htk, hz _ hl6]
        refine finA_drop ?_
        simp [confA, e0, cfgA]
    · have hlenI : ¬ (l.length : Int) = r.m := by omega
      have e7 : confE r l = 7 := by unfold confE; rw [if_pos hlen]
      simp [hb4, hlen, hlenI, confA, e7]
      exact finA_drop rfl
end Go.Proofs

end
