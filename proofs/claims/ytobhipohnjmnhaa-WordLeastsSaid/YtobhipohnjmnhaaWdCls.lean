/-
  Walks: states numbered by keys.
-/
import Derived.Test.YtobhipohnjmnhaaWdNum
import Derived.Test.YtobhipohnjmnhaaWdA
set_option linter.unusedSimpArgs false
set_option linter.unusedVariables false
set_option linter.unusedSectionVars false
namespace Go.Proofs
open Go Go.AH
set_option maxRecDepth 10000
set_option maxHeartbeats 4000000

theorem w_classedB (n : Nat) (hn1 : 1 ≤ n) (hn : n ≤ 1000000) (key : AV) (κ : Nat → Bool) (H : AHeap) (hkey : ∀ s, s < n → ACallV Try.prog key [.int .i64 (s : Int)] H fun r h' => r = .bool (κ s) ∧ h' = H) :
    ACalls Try.prog 113 [.int .i64 n, key] H fun r h' => r = .tup [natsA (clsF κ n), .int .i64 (ddF κ n).length] ∧ h' = H := by
  refine acalls_of Try.func113 rfl Try.call113 (by kernel_rfl) (by show _ ≤ (40 : Nat); simp) ?_
  simp
  intro bm hbm
  simp
  have hinj : ∀ x y : Bool, AV.bool x = .bool y → x = y := fun x y e => by simpa using e
  refine awp_loop_g (γ := Nat × Option Nat) (fun g t h => (g.1 ≤ n) ∧ ((g.2 = none → g.1 = 0) ∧ ∀ b, g.2 = some b → Fresh H b ∧ ¬ b = bm ∧ ¬ bm = b) ∧ t 1 = key ∧ t 4 = ownV g.2 g.1 1 ∧ t 6 = .map bm ∧ t 12 = .int .i64 n ∧ t 13 = .int .i64 g.1 ∧ h = (H.upd bm (.map (.one .b) (numE AV.bool (ddF κ g.1) 0))).updO g.2 ((clsF κ g.1).map fun x : Nat => AV.int .i64 (x : Int))) (fun g => n - g.1) ((0, none)) (turnA_self (by simp [ddF, numE])) ?_
  rintro g t h ⟨hs, ho, h1, h4, h6, h12, h13, rfl⟩
  obtain ⟨s, o⟩ := g
  simp only at h1 h4 h6 h12 h13 hs ho
  have hcl := clsF_len κ s
  have hdl := ddF_le κ s
  by_cases hlt : s < n
  · have hw : IntKind.i64.wrap ((s : Int) + 1) = (s : Int) + 1 := wrap_i64 (by omega) (by omega)
    have hk := hkey s hlt
    have hget := mapGet_num AV.bool hinj (κ s) (ddF κ s) 0
    have hset := mapSet_num AV.bool hinj (κ s) (ddF κ s) 0
    simp only [Nat.zero_add] at hget hset
    rcases o with _ | b
    · obtain rfl : s = 0 := ho.1 rfl
      simp [h1, h4, h6, h12, h13, hlt]
      refine ((hk.le ((HLe.refl H).new hbm)).use ?_)
      have hmem : ¬ κ 0 ∈ ddF κ 0 := by simp [ddF]
      have hd1 : ddF κ 1 = ddF κ 0 ++ [κ 0] := by simp [ddF]
      have hc1 : clsF κ 1 = [0] := by simp [clsF, ddF]
      have hd0 : (ddF κ 0).length = 0 := by simp [ddF]
      have hset' := hset hmem
      rw [if_neg hmem] at hget
      rw [hd0] at hset'
      simp [h1, h4, h6, h12, h13, hget, hlt, hset', numE_len, hd0]
      intro b1 hb1
      simp at hb1
      simp [h1, h4, h6, h12, h13, hb1]
      intro b2 hb2
      simp at hb2
      simp [h1, h4, h6, h12, h13, hw, hb1, hb2]
      refine turnA_to ((H.upd bm (.map (.one .b) (numE AV.bool (ddF κ 1) 0))).upd b2 (.cells ((clsF κ 1).map fun x : Nat => AV.int .i64 (x : Int)))) ?_ ⟨1, by omega, by omega, some b2, by simp [h1, h4, h6, h12, h13, hb2]⟩
      simp [hd1, hc1]
      exact ((Drop.refl _).upd (by have := hb1; unfold Fresh at this; simp [this])).both
    · have ho1 := ho.2 b rfl
      simp [h1, h4, h6, h12, h13, hlt, ho1]
      refine ((hk.le (((HLe.refl H).new hbm).new ho1.1)).use ?_)
      by_cases hmem : κ s ∈ ddF κ s
      · have hd1 : ddF κ (s + 1) = ddF κ s := by simp [ddF, hmem]
        have hc1 : clsF κ (s + 1) = clsF κ s ++ [ixF (ddF κ s) (κ s)] := by simp [clsF, hd1]
        rw [if_pos hmem] at hget
        skip
        simp [h1, h4, h6, h12, h13, hget, ho1, hlt]
        intro b1 hb1
        simp at hb1
        simp [h1, h4, h6, h12, h13, hb1, ho1, hcl]
        refine ⟨by omega, ?_⟩
        intro b2 hb2
        simp at hb2
        simp [h1, h4, h6, h12, h13, hw, hb1, hb2, ho1]
        refine turnA_to ((H.upd bm (.map (.one .b) (numE AV.bool (ddF κ (s + 1)) 0))).upd b2 (.cells ((clsF κ (s + 1)).map fun x : Nat => AV.int .i64 (x : Int)))) ?_ ⟨s + 1, by omega, by omega, some b2, by simp [h1, h4, h6, h12, h13, hb2]⟩
        simp [hd1, hc1]
        exact ((Drop.refl _).upd (by have := hb1; unfold Fresh at this; simp [this])).both
      · have hd1 : ddF κ (s + 1) = ddF κ s ++ [κ s] := by simp [ddF, hmem]
        have hc1 : clsF κ (s + 1) = clsF κ s ++ [(ddF κ s).length] := by simp only [clsF, hd1]; rw [idx_app_new hmem]
        have hset' := hset hmem
        rw [if_neg hmem] at hget
        skip
        simp [h1, h4, h6, h12, h13, hget, ho1, hset', numE_len]
        intro b1 hb1
        simp at hb1
        simp [h1, h4, h6, h12, h13, hb1, ho1, hcl]
        refine ⟨by omega, ?_⟩
        intro b2 hb2
        simp at hb2
        simp [h1, h4, h6, h12, h13, hw, hb1, hb2, ho1]
        refine turnA_to ((H.upd bm (.map (.one .b) (numE AV.bool (ddF κ (s + 1)) 0))).upd b2 (.cells ((clsF κ (s + 1)).map fun x : Nat => AV.int .i64 (x : Int)))) ?_ ⟨s + 1, by omega, by omega, some b2, by simp [h1, h4, h6, h12, h13, hb2]⟩
        simp [hd1, hc1]
        exact ((Drop.refl _).upd (by have := hb1; unfold Fresh at this; simp [this])).both
  · obtain rfl : s = n := by omega
    rcases o with _ | b
    · have := ho.1 rfl; omega
    have ho1 := ho.2 b rfl
    simp [h1, h4, h6, h12, h13, numE_len, ho1]
    refine finA_to 2 H (((Drop.refl _).upd hbm).upd ho1.1) ⟨?_, rfl⟩
    simp [natsA, hcl, ho1, List.take_of_length_le]

/-- The class of a state and those where it goes. -/
def signA (x : List Int) : AV := .agg (x.map (.int .i64))
theorem w_classedS (n : Nat) (hn1 : 1 ≤ n) (hn : n ≤ 1000000) (key : AV) (κ : Nat → List Int) (hκ : ∀ s, s < n → (κ s).length = 5) (H : AHeap) (hkey : ∀ s, s < n → ACallV Try.prog key [.int .i64 (s : Int)] H fun r h' => r = signA (κ s) ∧ h' = H) :
    ACalls Try.prog 115 [.int .i64 n, key] H fun r h' => r = .tup [natsA (clsF κ n), .int .i64 (ddF κ n).length] ∧ h' = H := by
  refine acalls_of Try.func115 rfl Try.call115 (by kernel_rfl) (by show _ ≤ (40 : Nat); simp) ?_
  simp
  intro bm hbm
  simp
  have hinj : ∀ x y : List Int, signA x = signA y → x = y := fun x y e => by
    have e' : x.map (AV.int .i64) = y.map (AV.int .i64) := by simpa [signA] using e
    exact (List.map_inj_right (fun a b h => by simpa using h)).1 e'
  refine awp_loop_g (γ := Nat × Option Nat) (fun g t h => (g.1 ≤ n) ∧ ((g.2 = none → g.1 = 0) ∧ ∀ b, g.2 = some b → Fresh H b ∧ ¬ b = bm ∧ ¬ bm = b) ∧ t 1 = key ∧ t 4 = ownV g.2 g.1 1 ∧ t 6 = .map bm ∧ t 12 = .int .i64 n ∧ t 13 = .int .i64 g.1 ∧ h = (H.upd bm (.map (.many [.i .i64, .i .i64, .i .i64, .i .i64, .i .i64]) (numE signA (ddF κ g.1) 0))).updO g.2 ((clsF κ g.1).map fun x : Nat => AV.int .i64 (x : Int))) (fun g => n - g.1) ((0, none)) (turnA_self (by simp [ddF, numE])) ?_
  rintro g t h ⟨hs, ho, h1, h4, h6, h12, h13, rfl⟩
  obtain ⟨s, o⟩ := g
  simp only at h1 h4 h6 h12 h13 hs ho
  have hcl := clsF_len κ s
  have hdl := ddF_le κ s
  by_cases hlt : s < n
  · have hw : IntKind.i64.wrap ((s : Int) + 1) = (s : Int) + 1 := wrap_i64 (by omega) (by omega)
    have hk := hkey s hlt
    have hget := mapGet_num signA hinj (κ s) (ddF κ s) 0
    have hset := mapSet_num signA hinj (κ s) (ddF κ s) 0
    simp only [Nat.zero_add] at hget hset
    have hl5 := hκ s hlt
    generalize hx : κ s = x at hl5 hk hget hset
    match x, hl5 with
    | [x0, x1, x2, x3, x4], _ =>
    simp only [signA, List.map_cons, List.map_nil] at hk hget hset
    rcases o with _ | b
    · obtain rfl : s = 0 := ho.1 rfl
      simp [h1, h4, h6, h12, h13, hlt]
      refine ((hk.le ((HLe.refl H).new hbm)).use ?_)
      simp
      intro b8 hb8
      simp at hb8
      have hmem : ¬ [x0, x1, x2, x3, x4] ∈ ddF κ 0 := by simp [ddF]
      have hd1 : ddF κ 1 = ddF κ 0 ++ [[x0, x1, x2, x3, x4]] := by simp [ddF, hx]
      have hc1 : clsF κ 1 = [0] := by simp [clsF, ddF]
      have hd0 : (ddF κ 0).length = 0 := by simp [ddF]
      have hset' : mapSet (numE signA (ddF κ 0) 0) (.agg [.int .i64 x0, .int .i64 x1, .int .i64 x2, .int .i64 x3, .int .i64 x4]) (.int .i64 0) = numE signA (ddF κ 0 ++ [[x0, x1, x2, x3, x4]]) 0 := by
        have q := hset hmem
        rw [hd0] at q
        exact q
      rw [if_neg hmem] at hget
      simp [h1, h4, h6, h12, h13, hb8, hget, hlt, hset', numE_len, hd0]
      intro b1 hb1
      simp at hb1
      simp [h1, h4, h6, h12, h13, hb1, hb8]
      intro b2 hb2
      simp at hb2
      simp [h1, h4, h6, h12, h13, hw, hb1, hb2, hb8]
      refine turnA_to ((H.upd bm (.map (.many [.i .i64, .i .i64, .i .i64, .i .i64, .i .i64]) (numE signA (ddF κ 1) 0))).upd b2 (.cells ((clsF κ 1).map fun x : Nat => AV.int .i64 (x : Int)))) ?_ ⟨1, by omega, by omega, some b2, by simp [h1, h4, h6, h12, h13, hb2]⟩
      simp [hd1, hc1]
      refine Drop.both (Drop.new (Drop.new (Drop.refl _) ?_) ?_) <;> simp [hb8, hb1]
    · have ho1 := ho.2 b rfl
      simp [h1, h4, h6, h12, h13, hlt, ho1]
      refine ((hk.le (((HLe.refl H).new hbm).new ho1.1)).use ?_)
      simp
      intro b8 hb8
      simp at hb8
      by_cases hmem : [x0, x1, x2, x3, x4] ∈ ddF κ s
      · have hd1 : ddF κ (s + 1) = ddF κ s := by simp [ddF, hmem, hx]
        have hc1 : clsF κ (s + 1) = clsF κ s ++ [ixF (ddF κ s) [x0, x1, x2, x3, x4]] := by simp [clsF, hd1, hx]
        rw [if_pos hmem] at hget
        simp [h1, h4, h6, h12, h13, hget, ho1, hb8, hlt]
        intro b1 hb1
        simp at hb1
        simp [h1, h4, h6, h12, h13, hb1, ho1, hcl, hb8]
        refine ⟨by omega, ?_⟩
        intro b2 hb2
        simp at hb2
        simp [h1, h4, h6, h12, h13, hw, hb1, hb2, ho1, hb8]
        refine turnA_to ((H.upd bm (.map (.many [.i .i64, .i .i64, .i .i64, .i .i64, .i .i64]) (numE signA (ddF κ (s + 1)) 0))).upd b2 (.cells ((clsF κ (s + 1)).map fun x : Nat => AV.int .i64 (x : Int)))) ?_ ⟨s + 1, by omega, by omega, some b2, by simp [h1, h4, h6, h12, h13, hb2]⟩
        simp [hd1, hc1]
        refine Drop.both (Drop.new (Drop.new (Drop.refl _) ?_) ?_) <;> simp [hb8, hb1]
      · have hd1 : ddF κ (s + 1) = ddF κ s ++ [[x0, x1, x2, x3, x4]] := by simp [ddF, hmem, hx]
        have hc1 : clsF κ (s + 1) = clsF κ s ++ [(ddF κ s).length] := by simp only [clsF, hd1, hx]; rw [idx_app_new hmem]
        have hset' := hset hmem
        rw [if_neg hmem] at hget
        simp [h1, h4, h6, h12, h13, hget, ho1, hb8, hset', numE_len]
        intro b1 hb1
        simp at hb1
        simp [h1, h4, h6, h12, h13, hb1, ho1, hcl, hb8]
        refine ⟨by omega, ?_⟩
        intro b2 hb2
        simp at hb2
        simp [h1, h4, h6, h12, h13, hw, hb1, hb2, ho1, hb8]
        refine turnA_to ((H.upd bm (.map (.many [.i .i64, .i .i64, .i .i64, .i .i64, .i .i64]) (numE signA (ddF κ (s + 1)) 0))).upd b2 (.cells ((clsF κ (s + 1)).map fun x : Nat => AV.int .i64 (x : Int)))) ?_ ⟨s + 1, by omega, by omega, some b2, by simp [h1, h4, h6, h12, h13, hb2]⟩
        simp [hd1, hc1]
        refine Drop.both (Drop.new (Drop.new (Drop.refl _) ?_) ?_) <;> simp [hb8, hb1]
  · obtain rfl : s = n := by omega
    rcases o with _ | b
    · have := ho.1 rfl; omega
    have ho1 := ho.2 b rfl
    simp [h1, h4, h6, h12, h13, numE_len, ho1]
    refine finA_to 2 H (((Drop.refl _).upd hbm).upd ho1.1) ⟨?_, rfl⟩
    simp [natsA, hcl, ho1, List.take_of_length_le]
end Go.Proofs
