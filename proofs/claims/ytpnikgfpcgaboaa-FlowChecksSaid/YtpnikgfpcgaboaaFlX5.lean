/-
  The law FlowChecks.
-/
import Derived.Test.YtpnikgfpcgaboaaF9
import Derived.Test.YtpnikgfpcgaboaaFlAwk
set_option linter.unusedSimpArgs false
set_option linter.unusedVariables false
set_option linter.unusedSectionVars false
namespace Go.Proofs
open Go Go.AH
set_option maxRecDepth 10000
set_option maxHeartbeats 4000000

theorem arcC_take (l : List RArc) (k : Nat) : (arcC l).take (k * 3) = arcC (l.take k) := by
  induction l generalizing k with
  | nil => simp
  | cons x l ih =>
    cases k with
    | zero => simp
    | succ k =>
      rw [show (k + 1) * 3 = k * 3 + 3 from by omega]
      simp [ih]
theorem w_FlowChecks (x y : RNet) (hs : x.arcs.length ≤ 4611686018427387904) (hs' : y.arcs.length ≤ 4611686018427387904) (a b : Int) : Pure Try.prog 11 [x.av, y.av, .agg [.int .i64 a, .int .i64 b]] (.bool true) := by
  refine pure_of (acalls_of Try.func11 rfl Try.call11 (by kernel_rfl) (by show _ ≤ (249 : Nat); simp) ?_)
  obtain ⟨nx, ax⟩ := x
  obtain ⟨ny, ay⟩ := y
  simp only at hs hs'
  simp only [RNet.av, arcsA]
  obtain ⟨mx, hmx⟩ : ∃ m, m = min ax.length 201 := ⟨_, rfl⟩
  obtain ⟨my, hmy⟩ : ∃ m, m = min ay.length 201 := ⟨_, rfl⟩
  have hmxI : (if (201 : Int) < (ax.length : Int) then (201 : Int) else (ax.length : Int)) = (mx : Int) := by split <;> omega
  have hmyI : (if (201 : Int) < (ay.length : Int) then (201 : Int) else (ay.length : Int)) = (my : Int) := by split <;> omega
  have x1 : mx ≤ ax.length := by omega
  have x2 : (mx : Int) ≤ (ax.length : Int) := by omega
  have y1 : my ≤ ay.length := by omega
  have y2 : (my : Int) ≤ (ay.length : Int) := by omega
  obtain ⟨lx, hlx⟩ : ∃ lx, lx = ax.take mx := ⟨_, rfl⟩
  obtain ⟨ly, hly⟩ : ∃ ly, ly = ay.take my := ⟨_, rfl⟩
  have lxl : lx.length = mx := by rw [hlx]; simp; omega
  have lyl : ly.length = my := by rw [hly]; simp; omega
  have lx0 : lx.length ≤ 1000 := by rw [lxl, hmx]; exact Nat.le_trans (Nat.min_le_right _ _) (by decide)
  have ly0 : ly.length ≤ 1000 := by rw [lyl, hmy]; exact Nat.le_trans (Nat.min_le_right _ _) (by decide)
  have lx2 : lx.length ≤ 1000000 := Nat.le_trans lx0 (by decide)
  have ly2 : ly.length ≤ 1000000 := Nat.le_trans ly0 (by decide)
  have ex : AV.sl mx ((arcC ax).take (mx * 3)) = arcsA lx := by rw [arcC_take, ← hlx, arcsA, lxl]
  have ey : AV.sl my ((arcC ay).take (my * 3)) = arcsA ly := by rw [arcC_take, ← hly, arcsA, lyl]
  simp
  intro b3 hb3
  simp
  intro b4 hb4
  simp at hb4
  simp [hb4]
  intro b5 hb5
  simp at hb5
  simp [hb5, hb4]
  refine awp_drawMG (by kernel_rfl) [] [] (fun b => if b = b3 then 1 else if b = b4 then 2 else 0) [[], [1], [], [1], [], [1], [], [], [], [], [], [2], [], [2], [], [2], [], [], [], [], [], [], [0], [0]] (by kernel_rfl) (by kernel_rfl) trivial ?_
  simp [accA, hb4, hb5, hmxI, hmyI, x1, x2, y1, y2]
  intro b7 hb7
  simp at hb7
  simp [hb7]
  intro b8 hb8
  simp at hb8
  have z7 : zcells [.int .i64 0, .nilsl] 1 = [.int .i64 0, .nilsl] := rfl
  simp [hb3, hb4, hb5, hb7, hb8, splice, ex, ey]
  have cx := l_netA nx lx lx0 (ArcsV.a lx)
  have cy := l_boardA ny ly ly0 (LinksV.a ly)
  obtain ⟨VX, hVX⟩ : ∃ V, V = arcsL lx := ⟨_, rfl⟩
  obtain ⟨VY, hVY⟩ : ∃ V, V = arcsL ly := ⟨_, rfl⟩
  have vx1 : VX.one = true := by rw [hVX]; simp
  have vx2 : VX.fit = true := by rw [hVX]; simp
  have vx3 : VX.cells = [VX] := by rw [hVX]; simp
  have vy1 : VY.one = true := by rw [hVY]; simp
  have vy2 : VY.fit = true := by rw [hVY]; simp
  have vy3 : VY.cells = [VY] := by rw [hVY]; simp
  have hnx : netV nx lx = .agg [.int .i64 nx, VX] := by rw [hVX]; rfl
  have hny : netV ny ly = .agg [.int .i64 ny, VY] := by rw [hVY]; rfl
  rw [hnx] at cx
  rw [hny] at cy
  have kx := l_Check nx lx lx2 (ArcsV.a lx)
  have ky := l_CheckBoard ny ly ly2 (LinksV.a ly)
  obtain ⟨UX, hUX⟩ : ∃ U, U = arcsA lx := ⟨_, rfl⟩
  obtain ⟨UY, hUY⟩ : ∃ U, U = arcsA ly := ⟨_, rfl⟩
  have ux1 : UX.one = true := by rw [hUX]; rfl
  have ux2 : UX.fit = true := by rw [hUX]; rfl
  have ux3 : UX.cells = [UX] := by rw [hUX]; rfl
  have uy1 : UY.one = true := by rw [hUY]; rfl
  have uy2 : UY.fit = true := by rw [hUY]; rfl
  have uy3 : UY.cells = [UY] := by rw [hUY]; rfl
  have ux4 : ∀ h, lenA Try.prog h 22 UX = some (.int .i64 (lx.length : Int)) := fun h => by rw [hUX]; exact (ArcsV.a lx).len22 h
  rw [← hUX] at cx kx ex
  rw [← hUY] at cy ky ey
  try rw [← hUX]
  try rw [← hUY]
  refine awp_drawMG (by kernel_rfl) [56, 58] [(.fn (.func 14) [] [], [.agg [.int .i64 nx, UX]], .agg [.int .i64 nx, VX]), (.fn (.func 35) [] [], [.agg [.int .i64 ny, UY]], .agg [.int .i64 ny, VY])] (fun b => if b = b7 then 1 else if b = b8 then 2 else 0) [[1], [], [2], [], [], [], [0], [0]] (by kernel_rfl) (by kernel_rfl) (by simp; exact ⟨PureV.of cx, PureV.of cy⟩) ?_
  simp [accA, hb4, hb5, hb7, hb8, ux1, ux2, ux3, uy1, uy2, uy3]
  intro b9 hb9
  simp at hb9
  simp [hb9]
  intro b10 hb10
  simp at hb10
  simp [hb9, hb10, hb7, hb8, vx1, vx2, vx3, vy1, vy2, vy3, splice]
  obtain ⟨H1, hH1⟩ : ∃ H1, H1 = ((((((AHeap.empty.upd b3 (.cells [.int .i64 nx, .sl ax.length (arcC ax)])).upd b4 (.cells [.int .i64 ny, .sl ay.length (arcC ay)])).upd b5 (.cells [.int .i64 a, .int .i64 b])).upd b7 (.cells [.int .i64 nx, UX])).upd b8 (.cells [.int .i64 ny, UY])).upd b9 (.cells [.int .i64 nx, VX])).upd b10 (.cells [.int .i64 ny, VY]) := ⟨_, rfl⟩
  have d5 : ∀ off, cellsAt H1 b5 off = some (([.int .i64 a, .int .i64 b] : List AV).drop off) := fun off => by rw [hH1]; simp [hb7, hb8, hb9, hb10]
  have d7 : ∀ off, cellsAt H1 b7 off = some (([.int .i64 nx, UX] : List AV).drop off) := fun off => by rw [hH1]; simp [hb7, hb8, hb9, hb10]
  have d8 : ∀ off, cellsAt H1 b8 off = some (([.int .i64 ny, UY] : List AV).drop off) := fun off => by rw [hH1]; simp [hb7, hb8, hb9, hb10]
  have d9 : ∀ off, cellsAt H1 b9 off = some (([.int .i64 nx, VX] : List AV).drop off) := fun off => by rw [hH1]; simp [hb7, hb8, hb9, hb10]
  have d10 : ∀ off, cellsAt H1 b10 off = some (([.int .i64 ny, VY] : List AV).drop off) := fun off => by rw [hH1]; simp [hb7, hb8, hb9, hb10]
  rw [← hH1]
  have fx := w_CheckN nx lx lx2
  have fy := w_CheckBoard ny ly ly2
  have exx := l_Ends nx a b
  have eyy := l_Ends ny a b
  have qm := w_Most nx lx lx2 a b
  have qc := w_Cut nx lx lx2 a b
  have qa : errOf nx lx a b ≠ 0 → Pure Try.prog 27 [.agg [.int .i64 nx, VX], .int .i64 a, .int .i64 b] (.tup [.nilsl, .nilsl, .int .i64 (errOf nx lx a b)]) := fun he => by rw [← hnx]; exact w_ApartE nx lx lx2 a b he
  have qaa : errOf nx lx a b ≠ 0 → Pure Try.prog 30 [.agg [.int .i64 nx, VX], .int .i64 a, .int .i64 b, .nilsl] (.bool false) := fun he => by rw [← hnx]; exact w_AreApartE nx lx lx2 a b he
  have qif : ∀ (he : errOf nx lx a b ≠ 0) (L : AV) (H : AHeap), ACalls Try.prog 23 [.agg [.int .i64 nx, VX], .int .i64 a, .int .i64 b, L] H fun r h' => r = .tup [.int .i64 0, .bool false] ∧ h' = H := fun he L H => by rw [← hnx]; exact w_IsFlowE nx lx lx2 a b he L H
  have qcap := w_Capacity nx lx lx2 [] (by simp)
  have ql := w_Least ny ly ly2 a b
  have qt : chkNet ny ly ≠ 0 → Pure Try.prog 42 [.agg [.int .i64 ny, VY]] (.tup [.nilsl, .int .i64 (chkNet ny ly)]) := fun h0 => by rw [← hny]; exact w_TreeE ny ly ly2 h0
  have qw : chkNet ny ly ≠ 0 → Pure Try.prog 43 [.agg [.int .i64 ny, VY]] (.tup [.int .i64 0, .nilsl, .int .i64 (chkNet ny ly)]) := fun h0 => by rw [← hny]; exact w_WeakestE ny ly ly2 h0
  have qit : chkNet ny ly ≠ 0 → ∀ (L : AV) (H : AHeap), ACalls Try.prog 34 [.agg [.int .i64 ny, VY], L] H fun r h' => r = .bool false ∧ h' = H := fun h0 L H => by rw [← hny]; exact w_IsTreeE ny ly ly2 h0 L H
  rw [hnx] at fx qm qc qcap
  rw [hny] at fy ql
  have e30x := chk_30 (n := nx) (l := lx)
  have e30y := chk_30 (n := ny) (l := ly)
  have me := fun he r => mostE (n := nx) (l := lx) (s := a) (t := b) (r := r) he
  have ce := fun he r => cutE (n := nx) (l := lx) (s := a) (t := b) (r := r) he
  have le := fun r => leastE (n := ny) (l := ly) (s := a) (t := b) (r := r)
  have hEx : errOf nx lx a b = if chkNet nx lx ≠ 0 then chkNet nx lx else if endsB nx a b = true then 0 else 1 := rfl
  have hEy : errOf ny ly a b = if chkNet ny ly ≠ 0 then chkNet ny ly else if endsB ny a b = true then 0 else 1 := rfl
  have hcapE : capacityF nx lx [] = if chkNet nx lx ≠ 0 then .tup [.int .i64 0, .int .i64 (chkNet nx lx)] else if okFrom nx (-1) [] = true then .tup [.int .i64 (capF lx []), .int .i64 0] else .tup [.int .i64 0, .int .i64 1] := rfl
  rw [hcapE] at qcap
  refine awp_drawMG (by kernel_rfl) [60, 62] [(.fn (.func 47) [] [], [.agg [.int .i64 nx, UX]], .int .i64 (chkNet nx lx)), (.fn (.func 48) [] [], [.agg [.int .i64 ny, UY]], .int .i64 (chkNet ny ly))] (fun b => if b = b7 then 1 else if b = b8 then 2 else 0) [[1], [], [2], [], [], []] (by kernel_rfl) (by kernel_rfl) (by simp; exact ⟨PureV.of kx, PureV.of ky⟩) ?_
  simp [d7, d8, hb8, ux1, ux2, ux3, uy1, uy2, uy3, vx1, vx2, vx3, vy1, vy2, vy3, d9, d10]
  refine fx.use ?_
  simp [d9, d10, vy1, vy2, vy3]
  refine fy.use ?_
  simp
  refine awp_draw_text (by kernel_rfl) [] [] (by kernel_rfl) (by kernel_rfl) (by simp) ?_
  simp [d5]
  obtain ⟨cX, hcX⟩ : ∃ c, c = chkNet nx lx := ⟨_, rfl⟩
  obtain ⟨cY, hcY⟩ : ∃ c, c = chkNet ny ly := ⟨_, rfl⟩
  obtain ⟨E, hE⟩ : ∃ c, c = errOf nx lx a b := ⟨_, rfl⟩
  obtain ⟨F, hF⟩ : ∃ c, c = errOf ny ly a b := ⟨_, rfl⟩
  rw [← hE, ← hcX] at hEx
  rw [← hF, ← hcY] at hEy
  rw [← hE] at qa qaa qif me ce
  rw [← hF] at le
  rw [← hcX] at qcap e30x kx
  rw [← hcY] at qt qw qit e30y ky
  rw [← hcX, ← hcY]
  clear hE hF hcX hcY
  refine condA_cut (fun t hq => t 7 = .ptr b7 0 ∧ t 8 = .ptr b8 0 ∧ t 9 = .ptr b9 0 ∧ t 10 = .ptr b10 0 ∧ t 11 = .int .i64 E ∧ t 12 = .int .i64 cY ∧ t 13 = .int .i64 a ∧ t 14 = .int .i64 b ∧ hq = H1) ?_ ?_
  · by_cases h0 : cX = 0
    · simp [h0, d7]
      refine exx.use ?_
      rw [if_neg (by simp [h0])] at hEx
      simp [hEx]
    · rw [if_pos h0] at hEx
      simp [h0, hEx]
  intro t hq ⟨h7, h8, h9, h10, h11, h12, h13, h14, ehq⟩
  rw [ehq]
  clear ehq
  simp [h7, h8, h9, h10, h11, h12, h13, h14]
  refine condA_cut (fun t hq => (HLe H1 hq) ∧ t 7 = .ptr b7 0 ∧ t 8 = .ptr b8 0 ∧ t 9 = .ptr b9 0 ∧ t 10 = .ptr b10 0 ∧ t 12 = .int .i64 cY ∧ t 13 = .int .i64 a ∧ t 14 = .int .i64 b) ?_ ?_
  · by_cases hE0 : E = 0
    · simp [hE0, h7, h8, h9, h10, h11, h12, h13, h14]
      exact HLe.refl _
    · simp [hE0, h7, h8, h9, h10, h11, h12, h13, h14, d9, vx1, vx2, vx3]
      refine qm.use fun r hr => ?_
      obtain rfl := me hE0 r hr
      simp [h7, h8, h9, h10, h11, h12, h13, h14, d9, vx1, vx2, vx3]
      refine qc.use fun r hr => ?_
      obtain rfl := ce hE0 r hr
      simp [h7, h8, h9, h10, h11, h12, h13, h14, d9, vx1, vx2, vx3]
      refine (qa hE0).use ?_
      simp [h7, h8, h9, h10, h11, h12, h13, h14]
      refine awp_draw_text (by kernel_rfl) [] [] (by kernel_rfl) (by kernel_rfl) (by simp) ?_
      simp [h7, h8, h9, h10, h11, h12, h13, h14, d9, d7, vx1, vx2, vx3, ux1, ux2, ux3, ux4, -lenA]
      refine ⟨Int.lt_of_le_of_lt (Int.ofNat_le.2 lx0) (by decide), ?_⟩
      intro b30 hb30
      simp [h7, h8, h9, h10, h11, h12, h13, h14, d9, vx1, vx2, vx3]
      refine ACalls.mono (qif hE0 _ _) ?_
      rintro _ _ ⟨rfl, rfl⟩
      have n9 := ne_fresh (d9 0) hb30
      simp [h7, h8, h9, h10, h11, h12, h13, h14, n9, d9, vx1, vx2, vx3]
      refine (qaa hE0).use ?_
      simp [h7, h8, h9, h10, h11, h12, h13, h14]
      exact (HLe.refl _).new hb30
  intro t hq ⟨hle, h7, h8, h9, h10, h12, h13, h14⟩
  have g7 : ∀ off, cellsAt hq b7 off = some (([.int .i64 nx, UX] : List AV).drop off) := fun off => hle.cells (d7 off)
  have g8 : ∀ off, cellsAt hq b8 off = some (([.int .i64 ny, UY] : List AV).drop off) := fun off => hle.cells (d8 off)
  have g9 : ∀ off, cellsAt hq b9 off = some (([.int .i64 nx, VX] : List AV).drop off) := fun off => hle.cells (d9 off)
  have g10 : ∀ off, cellsAt hq b10 off = some (([.int .i64 ny, VY] : List AV).drop off) := fun off => hle.cells (d10 off)
  have hnil : intL [] = .nilsl := rfl
  rw [hnil] at qcap
  simp [h7, h8, h9, h10, h12, h13, h14, g7, ux1, ux2, ux3]
  refine kx.use ?_
  simp
  clear g7 g8 g9 g10
  refine condA_cut (fun t hq => (HLe H1 hq) ∧ t 7 = .ptr b7 0 ∧ t 8 = .ptr b8 0 ∧ t 9 = .ptr b9 0 ∧ t 10 = .ptr b10 0 ∧ t 12 = .int .i64 cY ∧ t 13 = .int .i64 a ∧ t 14 = .int .i64 b) ?_ ?_
  · have g7 : ∀ off, cellsAt hq b7 off = some (([.int .i64 nx, UX] : List AV).drop off) := fun off => hle.cells (d7 off)
    have g9 : ∀ off, cellsAt hq b9 off = some (([.int .i64 nx, VX] : List AV).drop off) := fun off => hle.cells (d9 off)
    by_cases h0 : cX = 0
    · simp [h0, h7, h8, h9, h10, h12, h13, h14]
      exact hle
    · rw [if_pos h0] at qcap
      simp [h0, h7, h8, h9, h10, h12, h13, h14, g9, vx1, vx2, vx3]
      refine qcap.use ?_
      simp [h7, h8, h9, h10, h12, h13, h14, g7, ux1, ux2, ux3]
      refine kx.use ?_
      simp [h7, h8, h9, h10, h12, h13, h14]
      exact hle
  intro t hq ⟨hle2, h7, h8, h9, h10, h12, h13, h14⟩
  have g8 : ∀ off, cellsAt hq b8 off = some (([.int .i64 ny, UY] : List AV).drop off) := fun off => hle2.cells (d8 off)
  have g10 : ∀ off, cellsAt hq b10 off = some (([.int .i64 ny, VY] : List AV).drop off) := fun off => hle2.cells (d10 off)
  simp [h7, h8, h9, h10, h12, h13, h14]
  clear g8 g10
  refine condA_cut (fun t hq => (HLe H1 hq) ∧ t 7 = .ptr b7 0 ∧ t 8 = .ptr b8 0 ∧ t 9 = .ptr b9 0 ∧ t 10 = .ptr b10 0 ∧ t 13 = .int .i64 a ∧ t 14 = .int .i64 b ∧ t 12 = .int .i64 F) ?_ ?_
  · have g8 : ∀ off, cellsAt hq b8 off = some (([.int .i64 ny, UY] : List AV).drop off) := fun off => hle2.cells (d8 off)
    by_cases h0 : cY = 0
    · rw [if_neg (by simp [h0])] at hEy
      simp [h0, h7, h8, h9, h10, h12, h13, h14, g8]
      refine eyy.use ?_
      simp [h7, h8, h9, h10, h12, h13, h14, hEy]
      exact hle2
    · rw [if_pos h0] at hEy
      simp [h0, h7, h8, h9, h10, h12, h13, h14, hEy]
      exact hle2
  intro t hq ⟨hle3, h7, h8, h9, h10, h13, h14, h12⟩
  have g8 : ∀ off, cellsAt hq b8 off = some (([.int .i64 ny, UY] : List AV).drop off) := fun off => hle3.cells (d8 off)
  have g10 : ∀ off, cellsAt hq b10 off = some (([.int .i64 ny, VY] : List AV).drop off) := fun off => hle3.cells (d10 off)
  simp [h7, h8, h9, h10, h13, h14, h12, g8, g10, uy1, uy2, uy3, vy1, vy2, vy3]
  refine ql.use fun r hr => ?_
  obtain ⟨v, rfl, hv⟩ := le r hr
  by_cases hF0 : F = 0
  · simp [hF0, h7, h8, h9, h10, h13, h14, h12]
    simp [h7, h8, h9, h10, h13, h14, h12, g8, g10, uy1, uy2, uy3, vy1, vy2, vy3]
    refine ky.use ?_
    by_cases h0 : cY = 0
    · simp [h0]
      refine w_awake.use ?_
      simp
      exact finA_drop rfl
    · simp [h0, h7, h8, h9, h10, h13, h14, h12, g10, vy1, vy2, vy3]
      refine (qt h0).use ?_
      simp [h7, h8, h9, h10, h13, h14, h12, g10, vy1, vy2, vy3]
      refine (qw h0).use ?_
      have e30 := e30y h0
      have z3 : zcells [.int .i64 0, .int .i64 0, .int .i64 0] 1 = [.int .i64 0, .int .i64 0, .int .i64 0] := rfl
      simp [h7, h8, h9, h10, h13, h14, h12, g10, vy1, vy2, vy3, e30, z3]
      intro b40 hb40
      simp [h7, h8, h9, h10, h13, h14, h12]
      refine ACalls.mono (qit h0 _ _) ?_
      rintro _ _ ⟨rfl, rfl⟩
      simp [h7, h8, h9, h10, h13, h14, h12]
      refine w_awake.use ?_
      simp
      exact finA_drop rfl
  · have hv0 := hv hF0
    simp [hF0, hv0, h7, h8, h9, h10, h13, h14, h12]
    simp [h7, h8, h9, h10, h13, h14, h12, g8, g10, uy1, uy2, uy3, vy1, vy2, vy3]
    refine ky.use ?_
    by_cases h0 : cY = 0
    · simp [h0]
      refine w_awake.use ?_
      simp
      exact finA_drop rfl
    · simp [h0, h7, h8, h9, h10, h13, h14, h12, g10, vy1, vy2, vy3]
      refine (qt h0).use ?_
      simp [h7, h8, h9, h10, h13, h14, h12, g10, vy1, vy2, vy3]
      refine (qw h0).use ?_
      have e30 := e30y h0
      have z3 : zcells [.int .i64 0, .int .i64 0, .int .i64 0] 1 = [.int .i64 0, .int .i64 0, .int .i64 0] := rfl
      simp [h7, h8, h9, h10, h13, h14, h12, g10, vy1, vy2, vy3, e30, z3]
      intro b40 hb40
      simp [h7, h8, h9, h10, h13, h14, h12]
      refine ACalls.mono (qit h0 _ _) ?_
      rintro _ _ ⟨rfl, rfl⟩
      simp [h7, h8, h9, h10, h13, h14, h12]
      refine w_awake.use ?_
      simp
      exact finA_drop rfl
end Go.Proofs
