/-
  Plain law and walk: the law WordSets.
-/
import Derived.Test.YtobhipohnjmnhaaWdSet
import Derived.Test.YtobhipohnjmnhaaWdSame
import Derived.Test.YtobhipohnjmnhaaWdX10
set_option linter.unusedSimpArgs false
set_option linter.unusedVariables false
set_option linter.unusedSectionVars false
namespace Go.Proofs
open Go Go.AH
set_option maxRecDepth 10000
set_option maxHeartbeats 8000000

/-- Two automata have one least machine just if no word parts them. -/
theorem differ_least {M N : Dfa} (hM : M.ok) (hN : N.ok) (hk : M.k = N.k) : (firstF (prodF M N ⟨0, 0⟩ (· != ·))).isSome = true ↔ leastF M ≠ leastF N := by
  have hs := set_n hM hN
  have hwf := prod_wf hM.wf hN.wf hk ⟨0, 0⟩ hs (set_mul hM hN) (· != ·)
  have hac := fun w hw => prod_acc hM.wf hN.wf hk ⟨0, 0⟩ hs (· != ·) w hw
  cases e : firstF (prodF M N ⟨0, 0⟩ (· != ·)) with
  | none =>
    simp only [Option.isSome_none, Bool.false_eq_true, false_iff, ne_eq, Decidable.not_not]
    refine fun h => h (least_lang hM.wf hN.wf hk fun w hw => ?_)
    have h := first_none hwf e w (by rw [prod_k]; exact hw)
    rw [hac w hw] at h
    simpa [accW] using h
  | some w =>
    obtain ⟨h1, h2, _⟩ := first_some hwf (prod_bf hM.wf hN.wf hk ⟨0, 0⟩ hs (· != ·)) e
    rw [prod_k] at h2
    rw [hac _ (lts_ok h2)] at h1
    simp only [Option.isSome_some, true_iff]
    intro h
    have e1 := least_acc hM.wf (lts w) (lts_ok h2)
    have e2 := least_acc hN.wf (lts w) (by rw [← hk]; exact lts_ok h2)
    rw [h] at e1
    have : accW M (lts w) = accW N (lts w) := e1.symm.trans e2
    simp only [accW] at this
    rw [this] at h1
    simp at h1
theorem decT {p : Prop} (h : p) : @decide p (Classical.propDecidable _) = true := (@decide_eq_true_iff p (Classical.propDecidable p)).2 h
theorem rav_inj {a b : RAuto} (h : a.av = b.av) : a = b := by
  have h0 := AV.agg.inj h
  simp only [List.cons.injEq, and_true] at h0
  obtain ⟨h1, h2, h3⟩ := h0
  have e1 : a.letters = b.letters := (AV.int.inj h1).2
  have e2 : a.next = b.next := by
    have := (AV.sl.inj h2).2
    refine (List.map_inj_right ?_).1 this
    intro x y hxy
    exact (List.map_inj_right fun u v huv => (AV.int.inj huv).2).1 (AV.sl.inj hxy).2
  have e3 : a.good = b.good := (List.map_inj_right fun u v huv => AV.bool.inj huv).1 (AV.sl.inj h3).2
  cases a; cases b; simp_all
theorem keptA_ok {M : Dfa} (h : M.ok) : keptA M = .tup [M.av, .int .i64 0] := by
  have := h.n64
  unfold keptA; rw [if_neg (by omega)]

theorem w_WordSets (a b c : RAuto) (ha : a.sized) (hb : b.sized) (hc : c.sized) : Pure Try.prog 7 [a.av, b.av, c.av] (.bool true) := by
  refine pure_of (acalls_of Try.func7 rfl Try.call7 (by kernel_rfl) (by show _ ≤ (231 : Nat); simp) ?_)
  obtain ⟨hl1, hl4⟩ := letters_bd a.letters
  have cl := w_letters a.letters
  obtain ⟨K, hK⟩ : ∃ K : Nat, lettersF a.letters = K := ⟨(lettersF a.letters).toNat, by omega⟩
  rw [hK] at cl hl1 hl4

  have tx := w_tame a ha K 5 (by omega) (by omega) (by omega)
  have xok := tame_ok a K 5 (by omega) (by omega) (by omega)
  have xk : (tameF a K 5).k = K := rfl
  have xn := tame_n a K 5 (by omega)
  obtain ⟨x, ex⟩ : ∃ x, x = tameF a K 5 := ⟨_, rfl⟩
  rw [← ex] at tx xok xk xn
  have gx := w_give (x.k : Int) (nrowsA x.next) (boolsA x.good) (by simp) (by simp) (by simp) (by simp) (by simp) (by simp)

  have ty := w_tame b hb K 5 (by omega) (by omega) (by omega)
  have yok := tame_ok b K 5 (by omega) (by omega) (by omega)
  have yk : (tameF b K 5).k = K := rfl
  have yn := tame_n b K 5 (by omega)
  obtain ⟨y, ey⟩ : ∃ y, y = tameF b K 5 := ⟨_, rfl⟩
  rw [← ey] at ty yok yk yn
  have gy := w_give (y.k : Int) (nrowsA y.next) (boolsA y.good) (by simp) (by simp) (by simp) (by simp) (by simp) (by simp)

  have tz := w_tame c hc K 2 (by omega) (by omega) (by omega)
  have zok := tame_ok c K 2 (by omega) (by omega) (by omega)
  have zk : (tameF c K 2).k = K := rfl
  have zn := tame_n c K 2 (by omega)
  obtain ⟨z, ez⟩ : ∃ z, z = tameF c K 2 := ⟨_, rfl⟩
  rw [← ez] at tz zok zk zn
  have gz := w_give (z.k : Int) (nrowsA z.next) (boolsA z.good) (by simp) (by simp) (by simp) (by simp) (by simp) (by simp)

  have kxy : x.k = y.k := xk.trans yk.symm
  have kyz : y.k = z.k := yk.trans zk.symm
  have kxz : x.k = z.k := xk.trans zk.symm

  obtain ⟨p, hp⟩ : ∃ p, p = leastF x := ⟨_, rfl⟩
  have pc : Canon p := hp ▸ least_canon xok.wf
  have pn : p.next.length ≤ x.next.length := hp ▸ least_n xok.wf
  have pok : p.ok := pc.ok (by have := xok.n64; omega)
  have pk : p.k = K := by rw [hp, least_k xok.wf]; exact xk
  have pa : ∀ w, Ok K w → accW p w = accW x w := fun w hw => by rw [hp]; exact least_acc xok.wf w (by rw [xk]; exact hw)

  obtain ⟨q, hq⟩ : ∃ q, q = leastF y := ⟨_, rfl⟩
  have qc : Canon q := hq ▸ least_canon yok.wf
  have qn : q.next.length ≤ y.next.length := hq ▸ least_n yok.wf
  have qok : q.ok := qc.ok (by have := yok.n64; omega)
  have qk : q.k = K := by rw [hq, least_k yok.wf]; exact yk
  have qa : ∀ w, Ok K w → accW q w = accW y w := fun w hw => by rw [hq]; exact least_acc yok.wf w (by rw [yk]; exact hw)

  obtain ⟨bo, hbo⟩ : ∃ bo, bo = setF andB x y := ⟨_, rfl⟩
  have kbo : x.k = y.k := xk.trans yk.symm
  have boc : Canon bo := hbo ▸ set_canon andB xok yok kbo
  have bok : bo.k = K := by rw [hbo, set_k andB xok yok kbo]; exact xk
  have boa : ∀ w, Ok K w → accW bo w = andB (accW x w) (accW y w) := fun w hw => by rw [hbo]; exact set_acc andB xok yok kbo w (by rw [xk]; exact hw)
  have bol : x.next.length * y.next.length ≤ 5 * 5 := Nat.mul_le_mul xn yn
  have bon : bo.next.length ≤ 5 * 5 := by rw [hbo]; exact Nat.le_trans (set_len andB xok yok kbo) bol
  have book : bo.ok := boc.ok (by omega)

  obtain ⟨le, hle⟩ : ∃ le, le = setF notB bo bo := ⟨_, rfl⟩
  have kle : bo.k = bo.k := bok.trans bok.symm
  have lec : Canon le := hle ▸ set_canon notB book book kle
  have lek : le.k = K := by rw [hle, set_k notB book book kle]; exact bok
  have lea : ∀ w, Ok K w → accW le w = notB (accW bo w) (accW bo w) := fun w hw => by rw [hle]; exact set_acc notB book book kle w (by rw [bok]; exact hw)
  have len : le.next.length ≤ bo.next.length := by rw [hle]; exact not_len book
  have leok : le.ok := lec.ok (by have := book.n64; omega)

  obtain ⟨mx, hmx⟩ : ∃ mx, mx = setF notB x x := ⟨_, rfl⟩
  have kmx : x.k = x.k := xk.trans xk.symm
  have mxc : Canon mx := hmx ▸ set_canon notB xok xok kmx
  have mxk : mx.k = K := by rw [hmx, set_k notB xok xok kmx]; exact xk
  have mxa : ∀ w, Ok K w → accW mx w = notB (accW x w) (accW x w) := fun w hw => by rw [hmx]; exact set_acc notB xok xok kmx w (by rw [xk]; exact hw)
  have mxn : mx.next.length ≤ x.next.length := by rw [hmx]; exact not_len xok
  have mxok : mx.ok := mxc.ok (by have := xok.n64; omega)

  obtain ⟨my, hmy⟩ : ∃ my, my = setF notB y y := ⟨_, rfl⟩
  have kmy : y.k = y.k := yk.trans yk.symm
  have myc : Canon my := hmy ▸ set_canon notB yok yok kmy
  have myk : my.k = K := by rw [hmy, set_k notB yok yok kmy]; exact yk
  have mya : ∀ w, Ok K w → accW my w = notB (accW y w) (accW y w) := fun w hw => by rw [hmy]; exact set_acc notB yok yok kmy w (by rw [yk]; exact hw)
  have myn : my.next.length ≤ y.next.length := by rw [hmy]; exact not_len yok
  have myok : my.ok := myc.ok (by have := yok.n64; omega)

  obtain ⟨ri, hri⟩ : ∃ ri, ri = setF orB mx my := ⟨_, rfl⟩
  have kri : mx.k = my.k := mxk.trans myk.symm
  have ric : Canon ri := hri ▸ set_canon orB mxok myok kri
  have rik : ri.k = K := by rw [hri, set_k orB mxok myok kri]; exact mxk
  have ria : ∀ w, Ok K w → accW ri w = orB (accW mx w) (accW my w) := fun w hw => by rw [hri]; exact set_acc orB mxok myok kri w (by rw [mxk]; exact hw)
  have ril : mx.next.length * my.next.length ≤ 5 * 5 := Nat.mul_le_mul (Nat.le_trans mxn xn) (Nat.le_trans myn yn)
  have rin : ri.next.length ≤ 5 * 5 := by rw [hri]; exact Nat.le_trans (set_len orB mxok myok kri) ril
  have riok : ri.ok := ric.ok (by omega)

  obtain ⟨ba, hba⟩ : ∃ ba, ba = setF notB mx mx := ⟨_, rfl⟩
  have kba : mx.k = mx.k := mxk.trans mxk.symm
  have bac : Canon ba := hba ▸ set_canon notB mxok mxok kba
  have bak : ba.k = K := by rw [hba, set_k notB mxok mxok kba]; exact mxk
  have baa : ∀ w, Ok K w → accW ba w = notB (accW mx w) (accW mx w) := fun w hw => by rw [hba]; exact set_acc notB mxok mxok kba w (by rw [mxk]; exact hw)
  have ban : ba.next.length ≤ mx.next.length := by rw [hba]; exact not_len mxok
  have baok : ba.ok := bac.ok (by have := mxok.n64; omega)

  obtain ⟨yz, hyz⟩ : ∃ yz, yz = setF orB y z := ⟨_, rfl⟩
  have kyz : y.k = z.k := yk.trans zk.symm
  have yzc : Canon yz := hyz ▸ set_canon orB yok zok kyz
  have yzk : yz.k = K := by rw [hyz, set_k orB yok zok kyz]; exact yk
  have yza : ∀ w, Ok K w → accW yz w = orB (accW y w) (accW z w) := fun w hw => by rw [hyz]; exact set_acc orB yok zok kyz w (by rw [yk]; exact hw)
  have yzl : y.next.length * z.next.length ≤ 5 * 2 := Nat.mul_le_mul yn zn
  have yzn : yz.next.length ≤ 5 * 2 := by rw [hyz]; exact Nat.le_trans (set_len orB yok zok kyz) yzl
  have yzok : yz.ok := yzc.ok (by omega)

  obtain ⟨ov, hov⟩ : ∃ ov, ov = setF andB x yz := ⟨_, rfl⟩
  have kov : x.k = yz.k := xk.trans yzk.symm
  have ovc : Canon ov := hov ▸ set_canon andB xok yzok kov
  have ovk : ov.k = K := by rw [hov, set_k andB xok yzok kov]; exact xk
  have ova : ∀ w, Ok K w → accW ov w = andB (accW x w) (accW yz w) := fun w hw => by rw [hov]; exact set_acc andB xok yzok kov w (by rw [xk]; exact hw)
  have ovl : x.next.length * yz.next.length ≤ 5 * (5 * 2) := Nat.mul_le_mul xn yzn
  have ovn : ov.next.length ≤ 5 * (5 * 2) := by rw [hov]; exact Nat.le_trans (set_len andB xok yzok kov) ovl
  have ovok : ov.ok := ovc.ok (by omega)

  obtain ⟨xz, hxz⟩ : ∃ xz, xz = setF andB x z := ⟨_, rfl⟩
  have kxz : x.k = z.k := xk.trans zk.symm
  have xzc : Canon xz := hxz ▸ set_canon andB xok zok kxz
  have xzk : xz.k = K := by rw [hxz, set_k andB xok zok kxz]; exact xk
  have xza : ∀ w, Ok K w → accW xz w = andB (accW x w) (accW z w) := fun w hw => by rw [hxz]; exact set_acc andB xok zok kxz w (by rw [xk]; exact hw)
  have xzl : x.next.length * z.next.length ≤ 5 * 2 := Nat.mul_le_mul xn zn
  have xzn : xz.next.length ≤ 5 * 2 := by rw [hxz]; exact Nat.le_trans (set_len andB xok zok kxz) xzl
  have xzok : xz.ok := xzc.ok (by omega)

  obtain ⟨su, hsu⟩ : ∃ su, su = setF orB bo xz := ⟨_, rfl⟩
  have ksu : bo.k = xz.k := bok.trans xzk.symm
  have suc : Canon su := hsu ▸ set_canon orB book xzok ksu
  have suk : su.k = K := by rw [hsu, set_k orB book xzok ksu]; exact bok
  have sua : ∀ w, Ok K w → accW su w = orB (accW bo w) (accW xz w) := fun w hw => by rw [hsu]; exact set_acc orB book xzok ksu w (by rw [bok]; exact hw)

  obtain ⟨tu, htu⟩ : ∃ tu, tu = setF andB y x := ⟨_, rfl⟩
  have ktu : y.k = x.k := yk.trans xk.symm
  have tuc : Canon tu := htu ▸ set_canon andB yok xok ktu
  have tuk : tu.k = K := by rw [htu, set_k andB yok xok ktu]; exact yk
  have tua : ∀ w, Ok K w → accW tu w = andB (accW y w) (accW x w) := fun w hw => by rw [htu]; exact set_acc andB yok xok ktu w (by rw [yk]; exact hw)
  have tul : y.next.length * x.next.length ≤ 5 * 5 := Nat.mul_le_mul yn xn
  have tun : tu.next.length ≤ 5 * 5 := by rw [htu]; exact Nat.le_trans (set_len andB yok xok ktu) tul
  have tuok : tu.ok := tuc.ok (by omega)

  have eLR : le = ri := lec.unique ric (lek.trans rik.symm) fun w hw => by
    rw [lek] at hw
    rw [lea w hw, boa w hw, ria w hw, mxa w hw, mya w hw]
    generalize accW x w = u; generalize accW y w = v
    cases u <;> cases v <;> rfl
  have eBP : ba = p := bac.unique pc (bak.trans pk.symm) fun w hw => by
    rw [bak] at hw
    rw [baa w hw, mxa w hw, pa w hw]
    generalize accW x w = u
    cases u <;> rfl
  have eOS : ov = su := ovc.unique suc (ovk.trans suk.symm) fun w hw => by
    rw [ovk] at hw
    rw [ova w hw, yza w hw, sua w hw, boa w hw, xza w hw]
    generalize accW x w = u; generalize accW y w = v; generalize accW z w = r
    cases u <;> cases v <;> cases r <;> rfl
  have eTB : tu = bo := tuc.unique boc (tuk.trans bok.symm) fun w hw => by
    rw [tuk] at hw
    rw [tua w hw, boa w hw]
    generalize accW x w = u; generalize accW y w = v
    cases u <;> cases v <;> rfl
  have suok : su.ok := by rw [← eOS]; exact ovok
  have hdl := differ_least xok yok kxy
  rw [← hp, ← hq] at hdl
  have hpp : leastF p = p := by rw [hp, least_least xok.wf]

  have cP := w_Least x xok
  have cQ := w_Least y yok
  have cD := w_Differ x y xok yok kxy
  have cR := w_Least p pok
  have cbo := w_Both x y xok yok kbo
  have cle := w_Not bo book
  have cmx := w_Not x xok
  have cmy := w_Not y yok
  have cri := w_Either mx my mxok myok kri
  have cba := w_Not mx mxok
  have cyz := w_Either y z yok zok kyz
  have cov := w_Both x yz xok yzok kov
  have cxz := w_Both x z xok zok kxz
  have csu := w_Either bo xz book xzok ksu
  have ctu := w_Both y x yok xok ktu
  rw [← hp, if_neg (by have := pok.n64; omega)] at cP
  rw [← hq, if_neg (by have := qok.n64; omega)] at cQ
  rw [hpp, if_neg (by have := pok.n64; omega)] at cR
  rw [← hbo, keptA_ok book] at cbo
  rw [← hle, keptA_ok leok] at cle
  rw [← hmx, keptA_ok mxok] at cmx
  rw [← hmy, keptA_ok myok] at cmy
  rw [← hri, keptA_ok riok] at cri
  rw [← hba, keptA_ok baok] at cba
  rw [← hyz, keptA_ok yzok] at cyz
  rw [← hov, keptA_ok ovok] at cov
  rw [← hxz, keptA_ok xzok] at cxz
  rw [← hsu, keptA_ok suok] at csu
  rw [← htu, keptA_ok tuok] at ctu
  have a1 := w_alike p q pok.wf qok.wf
  have a2 := w_alike p p pok.wf pok.wf
  have a3 := w_alike le ri leok.wf riok.wf
  have a4 := w_alike ba p baok.wf pok.wf
  have a5 := w_alike ov su ovok.wf suok.wf
  have a6 := w_alike tu bo tuok.wf book.wf
  rw [decT rfl] at a2
  rw [decT eLR] at a3
  rw [decT eBP] at a4
  rw [decT eOS] at a5
  rw [decT eTB] at a6
  have aa : a.av = .agg [.int .i64 a.letters, rowsA a.next, boolsA a.good] := rfl
  have ab : b.av = .agg [.int .i64 b.letters, rowsA b.next, boolsA b.good] := rfl
  have ac : c.av = .agg [.int .i64 c.letters, rowsA c.next, boolsA c.good] := rfl
  rw [aa] at tx ⊢
  rw [ab] at ty ⊢
  rw [ac] at tz ⊢
  simp only [Dfa.av] at tx ty tz cP cQ cD cR cbo cle cmx cmy cri cba cyz cov cxz csu ctu
  simp only [Dfa.av] at a1 a2 a3 a4 a5 a6
  have hfs : ∃ ww, AH.Pure Try.prog 34 [.agg [.int .i64 (x.k : Int), nrowsA x.next, boolsA x.good], .agg [.int .i64 (y.k : Int), nrowsA y.next, boolsA y.good]] (.tup [.str ww, .bool (!@decide (p = q) (Classical.propDecidable _)), .int .i64 0]) := by
    cases e : firstF (prodF x y ⟨0, 0⟩ (· != ·)) with
    | none =>
      rw [e] at hdl cD
      have hpq : p = q := by simpa using hdl
      exact ⟨[], by rw [decT hpq]; exact cD⟩
    | some w =>
      rw [e] at hdl cD
      have hpq : ¬ p = q := by simpa using hdl
      refine ⟨w, ?_⟩
      have : @decide (p = q) (Classical.propDecidable _) = false := (@decide_eq_false_iff_not (p = q) (Classical.propDecidable _)).2 hpq
      rw [this]; exact cD
  obtain ⟨ww, cD'⟩ := hfs

  obtain ⟨Γ, hΓ⟩ : ∃ Γ : Gam, Γ = [(.fn (.func 15) [] [], [.agg [.int .i64 a.letters, rowsA a.next, boolsA a.good], .int .i64 (K : Int), .int .i64 5], .agg [.int .i64 (x.k : Int), nrowsA x.next, boolsA x.good]), (.fn (.func 15) [] [], [.agg [.int .i64 b.letters, rowsA b.next, boolsA b.good], .int .i64 (K : Int), .int .i64 5], .agg [.int .i64 (y.k : Int), nrowsA y.next, boolsA y.good]), (.fn (.func 15) [] [], [.agg [.int .i64 c.letters, rowsA c.next, boolsA c.good], .int .i64 (K : Int), .int .i64 2], .agg [.int .i64 (z.k : Int), nrowsA z.next, boolsA z.good]), (.fn (.func 17) [] [], [.agg [.int .i64 (x.k : Int), nrowsA x.next, boolsA x.good]], .agg [.int .i64 (x.k : Int), nrowsA x.next, boolsA x.good]), (.fn (.func 17) [] [], [.agg [.int .i64 (y.k : Int), nrowsA y.next, boolsA y.good]], .agg [.int .i64 (y.k : Int), nrowsA y.next, boolsA y.good]), (.fn (.func 17) [] [], [.agg [.int .i64 (z.k : Int), nrowsA z.next, boolsA z.good]], .agg [.int .i64 (z.k : Int), nrowsA z.next, boolsA z.good])] := ⟨_, rfl⟩
  have okΓ : Γ.ok Try.prog := by
    rw [hΓ]; simp; exact ⟨PureV.of tx, PureV.of ty, PureV.of tz, PureV.of gx, PureV.of gy, PureV.of gz⟩
  have g1 : gamGet Γ (.fn (.func 15) [] []) [.agg [.int .i64 a.letters, rowsA a.next, boolsA a.good], .int .i64 (K : Int), .int .i64 5] = some (.agg [.int .i64 (x.k : Int), nrowsA x.next, boolsA x.good]) := by rw [hΓ]; exact gamGet_here
  have g2 : gamGet Γ (.fn (.func 15) [] []) [.agg [.int .i64 b.letters, rowsA b.next, boolsA b.good], .int .i64 (K : Int), .int .i64 5] = some (.agg [.int .i64 (y.k : Int), nrowsA y.next, boolsA y.good]) := by
    rw [hΓ, gamGet_cons]
    split
    · next h =>
      have h1 : a.av = b.av := (List.cons.inj h.2).1
      have : x = y := by rw [ex, ey, rav_inj h1]
      rw [this]
    · exact gamGet_here
  have g3 : gamGet Γ (.fn (.func 15) [] []) [.agg [.int .i64 c.letters, rowsA c.next, boolsA c.good], .int .i64 (K : Int), .int .i64 2] = some (.agg [.int .i64 (z.k : Int), nrowsA z.next, boolsA z.good]) := by rw [hΓ]; simp [gamGet_cons]
  have g4 : gamGet Γ (.fn (.func 17) [] []) [.agg [.int .i64 (x.k : Int), nrowsA x.next, boolsA x.good]] = some (.agg [.int .i64 (x.k : Int), nrowsA x.next, boolsA x.good]) := by
    rw [hΓ, gamGet_cons, if_neg (by simp), gamGet_cons, if_neg (by simp), gamGet_cons, if_neg (by simp)]
    repeat' (first | exact gamGet_here | (rw [gamGet_cons]; split; · next h => rw [(List.cons.inj h.2).1]))
  have g5 : gamGet Γ (.fn (.func 17) [] []) [.agg [.int .i64 (y.k : Int), nrowsA y.next, boolsA y.good]] = some (.agg [.int .i64 (y.k : Int), nrowsA y.next, boolsA y.good]) := by
    rw [hΓ, gamGet_cons, if_neg (by simp), gamGet_cons, if_neg (by simp), gamGet_cons, if_neg (by simp)]
    repeat' (first | exact gamGet_here | (rw [gamGet_cons]; split; · next h => rw [(List.cons.inj h.2).1]))
  have g6 : gamGet Γ (.fn (.func 17) [] []) [.agg [.int .i64 (z.k : Int), nrowsA z.next, boolsA z.good]] = some (.agg [.int .i64 (z.k : Int), nrowsA z.next, boolsA z.good]) := by
    rw [hΓ, gamGet_cons, if_neg (by simp), gamGet_cons, if_neg (by simp), gamGet_cons, if_neg (by simp)]
    repeat' (first | exact gamGet_here | (rw [gamGet_cons]; split; · next h => rw [(List.cons.inj h.2).1]))
  clear hΓ tx ty tz gx gy gz pa qa boa lea mxa mya ria baa yza ova xza sua tua hdl cD eLR eBP eOS eTB hpp
  simp
  intro b3 hb3
  simp
  intro b4 hb4
  simp at hb4
  simp [hb4]
  intro b5 hb5
  simp at hb5
  simp [hb4, hb5]
  refine cl.use ?_
  simp [hb4, hb5]
  refine awp_draw_text (by kernel_rfl) [47, 48, 51, 52, 55, 56] Γ (by kernel_rfl) (by kernel_rfl) okΓ ?_
  simp [hb4, hb5, g1, g2, g3, g4, g5, g6]
  intro b8 hb8
  simp at hb8
  simp [hb8]
  intro b9 hb9
  simp at hb9
  simp [hb8, hb9]
  intro b10 hb10
  simp at hb10
  simp [hb8, hb9, hb10]
  obtain ⟨H0, hH0⟩ : ∃ H0, H0 = (((((AHeap.empty.upd b3 (.cells [.int .i64 a.letters, rowsA a.next, boolsA a.good])).upd b4 (.cells [.int .i64 b.letters, rowsA b.next, boolsA b.good])).upd b5 (.cells [.int .i64 c.letters, rowsA c.next, boolsA c.good])).upd b8 (.cells [.int .i64 (x.k : Int), nrowsA x.next, boolsA x.good])).upd b9 (.cells [.int .i64 (y.k : Int), nrowsA y.next, boolsA y.good])).upd b10 (.cells [.int .i64 (z.k : Int), nrowsA z.next, boolsA z.good]) := ⟨_, rfl⟩
  have e8 : ∀ off, cellsAt H0 b8 off = some (([.int .i64 (x.k : Int), nrowsA x.next, boolsA x.good] : List AV).drop off) := by intro off; rw [hH0]; simp [hb8, hb9, hb10]
  have e9 : ∀ off, cellsAt H0 b9 off = some (([.int .i64 (y.k : Int), nrowsA y.next, boolsA y.good] : List AV).drop off) := by intro off; rw [hH0]; simp [hb8, hb9, hb10]
  have e10 : ∀ off, cellsAt H0 b10 off = some (([.int .i64 (z.k : Int), nrowsA z.next, boolsA z.good] : List AV).drop off) := by intro off; rw [hH0]; simp [hb8, hb9, hb10]
  rw [← hH0]
  clear hH0 hb4 hb5 hb8 hb9 hb10

  refine cP.use ?_
  simp
  intro b11 hb11
  have n8 := ne_fresh (e8 0) hb11
  have n9 := ne_fresh (e9 0) hb11
  have n10 := ne_fresh (e10 0) hb11
  simp [e8, e9, e10, n8, n9, n10]
  obtain ⟨H1, hH1⟩ : ∃ H1, H1 = H0.upd b11 (.cells [.int .i64 (p.k : Int), nrowsA p.next, boolsA p.good]) := ⟨_, rfl⟩
  have f8 : ∀ off, cellsAt H1 b8 off = some (([.int .i64 (x.k : Int), nrowsA x.next, boolsA x.good] : List AV).drop off) := by intro off; rw [hH1]; simp [n8, e8]
  have f9 : ∀ off, cellsAt H1 b9 off = some (([.int .i64 (y.k : Int), nrowsA y.next, boolsA y.good] : List AV).drop off) := by intro off; rw [hH1]; simp [n9, e9]
  have f10 : ∀ off, cellsAt H1 b10 off = some (([.int .i64 (z.k : Int), nrowsA z.next, boolsA z.good] : List AV).drop off) := by intro off; rw [hH1]; simp [n10, e10]
  have f11 : ∀ off, cellsAt H1 b11 off = some (([.int .i64 (p.k : Int), nrowsA p.next, boolsA p.good] : List AV).drop off) := by intro off; rw [hH1]; simp
  rw [← hH1]
  clear hH1 e8 e9 e10 n8 n9 n10 hb11
  have e8 := f8
  have e9 := f9
  have e10 := f10
  have e11 := f11
  clear f8 f9 f10 f11
  refine cQ.use ?_
  simp
  intro b13 hb13
  have n8 := ne_fresh (e8 0) hb13
  have n9 := ne_fresh (e9 0) hb13
  have n10 := ne_fresh (e10 0) hb13
  have n11 := ne_fresh (e11 0) hb13
  simp [e8, e9, e10, e11, n8, n9, n10, n11]
  obtain ⟨H2, hH2⟩ : ∃ H2, H2 = H1.upd b13 (.cells [.int .i64 (q.k : Int), nrowsA q.next, boolsA q.good]) := ⟨_, rfl⟩
  have f8 : ∀ off, cellsAt H2 b8 off = some (([.int .i64 (x.k : Int), nrowsA x.next, boolsA x.good] : List AV).drop off) := by intro off; rw [hH2]; simp [n8, e8]
  have f9 : ∀ off, cellsAt H2 b9 off = some (([.int .i64 (y.k : Int), nrowsA y.next, boolsA y.good] : List AV).drop off) := by intro off; rw [hH2]; simp [n9, e9]
  have f10 : ∀ off, cellsAt H2 b10 off = some (([.int .i64 (z.k : Int), nrowsA z.next, boolsA z.good] : List AV).drop off) := by intro off; rw [hH2]; simp [n10, e10]
  have f11 : ∀ off, cellsAt H2 b11 off = some (([.int .i64 (p.k : Int), nrowsA p.next, boolsA p.good] : List AV).drop off) := by intro off; rw [hH2]; simp [n11, e11]
  have f13 : ∀ off, cellsAt H2 b13 off = some (([.int .i64 (q.k : Int), nrowsA q.next, boolsA q.good] : List AV).drop off) := by intro off; rw [hH2]; simp
  rw [← hH2]
  clear hH2 e8 e9 e10 e11 n8 n9 n10 n11 hb13
  have e8 := f8
  have e9 := f9
  have e10 := f10
  have e11 := f11
  have e13 := f13
  clear f8 f9 f10 f11 f13
  refine cD'.use ?_
  simp [e8, e9, e10, e11, e13]
  refine cR.use ?_
  simp
  intro b18 hb18
  have n8 := ne_fresh (e8 0) hb18
  have n9 := ne_fresh (e9 0) hb18
  have n10 := ne_fresh (e10 0) hb18
  have n11 := ne_fresh (e11 0) hb18
  have n13 := ne_fresh (e13 0) hb18
  simp [e8, e9, e10, e11, e13, n8, n9, n10, n11, n13]
  obtain ⟨H3, hH3⟩ : ∃ H3, H3 = H2.upd b18 (.cells [.int .i64 (p.k : Int), nrowsA p.next, boolsA p.good]) := ⟨_, rfl⟩
  have f8 : ∀ off, cellsAt H3 b8 off = some (([.int .i64 (x.k : Int), nrowsA x.next, boolsA x.good] : List AV).drop off) := by intro off; rw [hH3]; simp [n8, e8]
  have f9 : ∀ off, cellsAt H3 b9 off = some (([.int .i64 (y.k : Int), nrowsA y.next, boolsA y.good] : List AV).drop off) := by intro off; rw [hH3]; simp [n9, e9]
  have f10 : ∀ off, cellsAt H3 b10 off = some (([.int .i64 (z.k : Int), nrowsA z.next, boolsA z.good] : List AV).drop off) := by intro off; rw [hH3]; simp [n10, e10]
  have f11 : ∀ off, cellsAt H3 b11 off = some (([.int .i64 (p.k : Int), nrowsA p.next, boolsA p.good] : List AV).drop off) := by intro off; rw [hH3]; simp [n11, e11]
  have f13 : ∀ off, cellsAt H3 b13 off = some (([.int .i64 (q.k : Int), nrowsA q.next, boolsA q.good] : List AV).drop off) := by intro off; rw [hH3]; simp [n13, e13]
  have f18 : ∀ off, cellsAt H3 b18 off = some (([.int .i64 (p.k : Int), nrowsA p.next, boolsA p.good] : List AV).drop off) := by intro off; rw [hH3]; simp
  rw [← hH3]
  clear hH3 e8 e9 e10 e11 e13 n8 n9 n10 n11 n13 hb18
  have e8 := f8
  have e9 := f9
  have e10 := f10
  have e11 := f11
  have e13 := f13
  have e18 := f18
  clear f8 f9 f10 f11 f13 f18
  refine a1.use ?_
  simp [e8, e9, e10, e11, e13, e18]
  refine a2.use ?_
  simp [e8, e9, e10, e11, e13, e18]
  refine cbo.use ?_
  simp
  intro b20 hb20
  have n8 := ne_fresh (e8 0) hb20
  have n9 := ne_fresh (e9 0) hb20
  have n10 := ne_fresh (e10 0) hb20
  have n11 := ne_fresh (e11 0) hb20
  have n13 := ne_fresh (e13 0) hb20
  have n18 := ne_fresh (e18 0) hb20
  simp [e8, e9, e10, e11, e13, e18, n8, n9, n10, n11, n13, n18]
  obtain ⟨H4, hH4⟩ : ∃ H4, H4 = H3.upd b20 (.cells [.int .i64 (bo.k : Int), nrowsA bo.next, boolsA bo.good]) := ⟨_, rfl⟩
  have f8 : ∀ off, cellsAt H4 b8 off = some (([.int .i64 (x.k : Int), nrowsA x.next, boolsA x.good] : List AV).drop off) := by intro off; rw [hH4]; simp [n8, e8]
  have f9 : ∀ off, cellsAt H4 b9 off = some (([.int .i64 (y.k : Int), nrowsA y.next, boolsA y.good] : List AV).drop off) := by intro off; rw [hH4]; simp [n9, e9]
  have f10 : ∀ off, cellsAt H4 b10 off = some (([.int .i64 (z.k : Int), nrowsA z.next, boolsA z.good] : List AV).drop off) := by intro off; rw [hH4]; simp [n10, e10]
  have f11 : ∀ off, cellsAt H4 b11 off = some (([.int .i64 (p.k : Int), nrowsA p.next, boolsA p.good] : List AV).drop off) := by intro off; rw [hH4]; simp [n11, e11]
  have f13 : ∀ off, cellsAt H4 b13 off = some (([.int .i64 (q.k : Int), nrowsA q.next, boolsA q.good] : List AV).drop off) := by intro off; rw [hH4]; simp [n13, e13]
  have f18 : ∀ off, cellsAt H4 b18 off = some (([.int .i64 (p.k : Int), nrowsA p.next, boolsA p.good] : List AV).drop off) := by intro off; rw [hH4]; simp [n18, e18]
  have f20 : ∀ off, cellsAt H4 b20 off = some (([.int .i64 (bo.k : Int), nrowsA bo.next, boolsA bo.good] : List AV).drop off) := by intro off; rw [hH4]; simp
  rw [← hH4]
  clear hH4 e8 e9 e10 e11 e13 e18 n8 n9 n10 n11 n13 n18 hb20
  have e8 := f8
  have e9 := f9
  have e10 := f10
  have e11 := f11
  have e13 := f13
  have e18 := f18
  have e20 := f20
  clear f8 f9 f10 f11 f13 f18 f20
  refine cle.use ?_
  simp
  intro b22 hb22
  have n8 := ne_fresh (e8 0) hb22
  have n9 := ne_fresh (e9 0) hb22
  have n10 := ne_fresh (e10 0) hb22
  have n11 := ne_fresh (e11 0) hb22
  have n13 := ne_fresh (e13 0) hb22
  have n18 := ne_fresh (e18 0) hb22
  have n20 := ne_fresh (e20 0) hb22
  simp [e8, e9, e10, e11, e13, e18, e20, n8, n9, n10, n11, n13, n18, n20]
  obtain ⟨H5, hH5⟩ : ∃ H5, H5 = H4.upd b22 (.cells [.int .i64 (le.k : Int), nrowsA le.next, boolsA le.good]) := ⟨_, rfl⟩
  have f8 : ∀ off, cellsAt H5 b8 off = some (([.int .i64 (x.k : Int), nrowsA x.next, boolsA x.good] : List AV).drop off) := by intro off; rw [hH5]; simp [n8, e8]
  have f9 : ∀ off, cellsAt H5 b9 off = some (([.int .i64 (y.k : Int), nrowsA y.next, boolsA y.good] : List AV).drop off) := by intro off; rw [hH5]; simp [n9, e9]
  have f10 : ∀ off, cellsAt H5 b10 off = some (([.int .i64 (z.k : Int), nrowsA z.next, boolsA z.good] : List AV).drop off) := by intro off; rw [hH5]; simp [n10, e10]
  have f11 : ∀ off, cellsAt H5 b11 off = some (([.int .i64 (p.k : Int), nrowsA p.next, boolsA p.good] : List AV).drop off) := by intro off; rw [hH5]; simp [n11, e11]
  have f13 : ∀ off, cellsAt H5 b13 off = some (([.int .i64 (q.k : Int), nrowsA q.next, boolsA q.good] : List AV).drop off) := by intro off; rw [hH5]; simp [n13, e13]
  have f18 : ∀ off, cellsAt H5 b18 off = some (([.int .i64 (p.k : Int), nrowsA p.next, boolsA p.good] : List AV).drop off) := by intro off; rw [hH5]; simp [n18, e18]
  have f20 : ∀ off, cellsAt H5 b20 off = some (([.int .i64 (bo.k : Int), nrowsA bo.next, boolsA bo.good] : List AV).drop off) := by intro off; rw [hH5]; simp [n20, e20]
  have f22 : ∀ off, cellsAt H5 b22 off = some (([.int .i64 (le.k : Int), nrowsA le.next, boolsA le.good] : List AV).drop off) := by intro off; rw [hH5]; simp
  rw [← hH5]
  clear hH5 e8 e9 e10 e11 e13 e18 e20 n8 n9 n10 n11 n13 n18 n20 hb22
  have e8 := f8
  have e9 := f9
  have e10 := f10
  have e11 := f11
  have e13 := f13
  have e18 := f18
  have e20 := f20
  have e22 := f22
  clear f8 f9 f10 f11 f13 f18 f20 f22
  refine cmx.use ?_
  simp
  intro b24 hb24
  have n8 := ne_fresh (e8 0) hb24
  have n9 := ne_fresh (e9 0) hb24
  have n10 := ne_fresh (e10 0) hb24
  have n11 := ne_fresh (e11 0) hb24
  have n13 := ne_fresh (e13 0) hb24
  have n18 := ne_fresh (e18 0) hb24
  have n20 := ne_fresh (e20 0) hb24
  have n22 := ne_fresh (e22 0) hb24
  simp [e8, e9, e10, e11, e13, e18, e20, e22, n8, n9, n10, n11, n13, n18, n20, n22]
  obtain ⟨H6, hH6⟩ : ∃ H6, H6 = H5.upd b24 (.cells [.int .i64 (mx.k : Int), nrowsA mx.next, boolsA mx.good]) := ⟨_, rfl⟩
  have f8 : ∀ off, cellsAt H6 b8 off = some (([.int .i64 (x.k : Int), nrowsA x.next, boolsA x.good] : List AV).drop off) := by intro off; rw [hH6]; simp [n8, e8]
  have f9 : ∀ off, cellsAt H6 b9 off = some (([.int .i64 (y.k : Int), nrowsA y.next, boolsA y.good] : List AV).drop off) := by intro off; rw [hH6]; simp [n9, e9]
  have f10 : ∀ off, cellsAt H6 b10 off = some (([.int .i64 (z.k : Int), nrowsA z.next, boolsA z.good] : List AV).drop off) := by intro off; rw [hH6]; simp [n10, e10]
  have f11 : ∀ off, cellsAt H6 b11 off = some (([.int .i64 (p.k : Int), nrowsA p.next, boolsA p.good] : List AV).drop off) := by intro off; rw [hH6]; simp [n11, e11]
  have f13 : ∀ off, cellsAt H6 b13 off = some (([.int .i64 (q.k : Int), nrowsA q.next, boolsA q.good] : List AV).drop off) := by intro off; rw [hH6]; simp [n13, e13]
  have f18 : ∀ off, cellsAt H6 b18 off = some (([.int .i64 (p.k : Int), nrowsA p.next, boolsA p.good] : List AV).drop off) := by intro off; rw [hH6]; simp [n18, e18]
  have f20 : ∀ off, cellsAt H6 b20 off = some (([.int .i64 (bo.k : Int), nrowsA bo.next, boolsA bo.good] : List AV).drop off) := by intro off; rw [hH6]; simp [n20, e20]
  have f22 : ∀ off, cellsAt H6 b22 off = some (([.int .i64 (le.k : Int), nrowsA le.next, boolsA le.good] : List AV).drop off) := by intro off; rw [hH6]; simp [n22, e22]
  have f24 : ∀ off, cellsAt H6 b24 off = some (([.int .i64 (mx.k : Int), nrowsA mx.next, boolsA mx.good] : List AV).drop off) := by intro off; rw [hH6]; simp
  rw [← hH6]
  clear hH6 e8 e9 e10 e11 e13 e18 e20 e22 n8 n9 n10 n11 n13 n18 n20 n22 hb24
  have e8 := f8
  have e9 := f9
  have e10 := f10
  have e11 := f11
  have e13 := f13
  have e18 := f18
  have e20 := f20
  have e22 := f22
  have e24 := f24
  clear f8 f9 f10 f11 f13 f18 f20 f22 f24
  refine cmy.use ?_
  simp
  intro b26 hb26
  have n8 := ne_fresh (e8 0) hb26
  have n9 := ne_fresh (e9 0) hb26
  have n10 := ne_fresh (e10 0) hb26
  have n11 := ne_fresh (e11 0) hb26
  have n13 := ne_fresh (e13 0) hb26
  have n18 := ne_fresh (e18 0) hb26
  have n20 := ne_fresh (e20 0) hb26
  have n22 := ne_fresh (e22 0) hb26
  have n24 := ne_fresh (e24 0) hb26
  simp [e8, e9, e10, e11, e13, e18, e20, e22, e24, n8, n9, n10, n11, n13, n18, n20, n22, n24]
  obtain ⟨H7, hH7⟩ : ∃ H7, H7 = H6.upd b26 (.cells [.int .i64 (my.k : Int), nrowsA my.next, boolsA my.good]) := ⟨_, rfl⟩
  have f8 : ∀ off, cellsAt H7 b8 off = some (([.int .i64 (x.k : Int), nrowsA x.next, boolsA x.good] : List AV).drop off) := by intro off; rw [hH7]; simp [n8, e8]
  have f9 : ∀ off, cellsAt H7 b9 off = some (([.int .i64 (y.k : Int), nrowsA y.next, boolsA y.good] : List AV).drop off) := by intro off; rw [hH7]; simp [n9, e9]
  have f10 : ∀ off, cellsAt H7 b10 off = some (([.int .i64 (z.k : Int), nrowsA z.next, boolsA z.good] : List AV).drop off) := by intro off; rw [hH7]; simp [n10, e10]
  have f11 : ∀ off, cellsAt H7 b11 off = some (([.int .i64 (p.k : Int), nrowsA p.next, boolsA p.good] : List AV).drop off) := by intro off; rw [hH7]; simp [n11, e11]
  have f13 : ∀ off, cellsAt H7 b13 off = some (([.int .i64 (q.k : Int), nrowsA q.next, boolsA q.good] : List AV).drop off) := by intro off; rw [hH7]; simp [n13, e13]
  have f18 : ∀ off, cellsAt H7 b18 off = some (([.int .i64 (p.k : Int), nrowsA p.next, boolsA p.good] : List AV).drop off) := by intro off; rw [hH7]; simp [n18, e18]
  have f20 : ∀ off, cellsAt H7 b20 off = some (([.int .i64 (bo.k : Int), nrowsA bo.next, boolsA bo.good] : List AV).drop off) := by intro off; rw [hH7]; simp [n20, e20]
  have f22 : ∀ off, cellsAt H7 b22 off = some (([.int .i64 (le.k : Int), nrowsA le.next, boolsA le.good] : List AV).drop off) := by intro off; rw [hH7]; simp [n22, e22]
  have f24 : ∀ off, cellsAt H7 b24 off = some (([.int .i64 (mx.k : Int), nrowsA mx.next, boolsA mx.good] : List AV).drop off) := by intro off; rw [hH7]; simp [n24, e24]
  have f26 : ∀ off, cellsAt H7 b26 off = some (([.int .i64 (my.k : Int), nrowsA my.next, boolsA my.good] : List AV).drop off) := by intro off; rw [hH7]; simp
  rw [← hH7]
  clear hH7 e8 e9 e10 e11 e13 e18 e20 e22 e24 n8 n9 n10 n11 n13 n18 n20 n22 n24 hb26
  have e8 := f8
  have e9 := f9
  have e10 := f10
  have e11 := f11
  have e13 := f13
  have e18 := f18
  have e20 := f20
  have e22 := f22
  have e24 := f24
  have e26 := f26
  clear f8 f9 f10 f11 f13 f18 f20 f22 f24 f26
  refine cri.use ?_
  simp
  intro b28 hb28
  have n8 := ne_fresh (e8 0) hb28
  have n9 := ne_fresh (e9 0) hb28
  have n10 := ne_fresh (e10 0) hb28
  have n11 := ne_fresh (e11 0) hb28
  have n13 := ne_fresh (e13 0) hb28
  have n18 := ne_fresh (e18 0) hb28
  have n20 := ne_fresh (e20 0) hb28
  have n22 := ne_fresh (e22 0) hb28
  have n24 := ne_fresh (e24 0) hb28
  have n26 := ne_fresh (e26 0) hb28
  simp [e8, e9, e10, e11, e13, e18, e20, e22, e24, e26, n8, n9, n10, n11, n13, n18, n20, n22, n24, n26]
  obtain ⟨H8, hH8⟩ : ∃ H8, H8 = H7.upd b28 (.cells [.int .i64 (ri.k : Int), nrowsA ri.next, boolsA ri.good]) := ⟨_, rfl⟩
  have f8 : ∀ off, cellsAt H8 b8 off = some (([.int .i64 (x.k : Int), nrowsA x.next, boolsA x.good] : List AV).drop off) := by intro off; rw [hH8]; simp [n8, e8]
  have f9 : ∀ off, cellsAt H8 b9 off = some (([.int .i64 (y.k : Int), nrowsA y.next, boolsA y.good] : List AV).drop off) := by intro off; rw [hH8]; simp [n9, e9]
  have f10 : ∀ off, cellsAt H8 b10 off = some (([.int .i64 (z.k : Int), nrowsA z.next, boolsA z.good] : List AV).drop off) := by intro off; rw [hH8]; simp [n10, e10]
  have f11 : ∀ off, cellsAt H8 b11 off = some (([.int .i64 (p.k : Int), nrowsA p.next, boolsA p.good] : List AV).drop off) := by intro off; rw [hH8]; simp [n11, e11]
  have f13 : ∀ off, cellsAt H8 b13 off = some (([.int .i64 (q.k : Int), nrowsA q.next, boolsA q.good] : List AV).drop off) := by intro off; rw [hH8]; simp [n13, e13]
  have f18 : ∀ off, cellsAt H8 b18 off = some (([.int .i64 (p.k : Int), nrowsA p.next, boolsA p.good] : List AV).drop off) := by intro off; rw [hH8]; simp [n18, e18]
  have f20 : ∀ off, cellsAt H8 b20 off = some (([.int .i64 (bo.k : Int), nrowsA bo.next, boolsA bo.good] : List AV).drop off) := by intro off; rw [hH8]; simp [n20, e20]
  have f22 : ∀ off, cellsAt H8 b22 off = some (([.int .i64 (le.k : Int), nrowsA le.next, boolsA le.good] : List AV).drop off) := by intro off; rw [hH8]; simp [n22, e22]
  have f24 : ∀ off, cellsAt H8 b24 off = some (([.int .i64 (mx.k : Int), nrowsA mx.next, boolsA mx.good] : List AV).drop off) := by intro off; rw [hH8]; simp [n24, e24]
  have f26 : ∀ off, cellsAt H8 b26 off = some (([.int .i64 (my.k : Int), nrowsA my.next, boolsA my.good] : List AV).drop off) := by intro off; rw [hH8]; simp [n26, e26]
  have f28 : ∀ off, cellsAt H8 b28 off = some (([.int .i64 (ri.k : Int), nrowsA ri.next, boolsA ri.good] : List AV).drop off) := by intro off; rw [hH8]; simp
  rw [← hH8]
  clear hH8 e8 e9 e10 e11 e13 e18 e20 e22 e24 e26 n8 n9 n10 n11 n13 n18 n20 n22 n24 n26 hb28
  have e8 := f8
  have e9 := f9
  have e10 := f10
  have e11 := f11
  have e13 := f13
  have e18 := f18
  have e20 := f20
  have e22 := f22
  have e24 := f24
  have e26 := f26
  have e28 := f28
  clear f8 f9 f10 f11 f13 f18 f20 f22 f24 f26 f28
  refine cba.use ?_
  simp
  intro b30 hb30
  have n8 := ne_fresh (e8 0) hb30
  have n9 := ne_fresh (e9 0) hb30
  have n10 := ne_fresh (e10 0) hb30
  have n11 := ne_fresh (e11 0) hb30
  have n13 := ne_fresh (e13 0) hb30
  have n18 := ne_fresh (e18 0) hb30
  have n20 := ne_fresh (e20 0) hb30
  have n22 := ne_fresh (e22 0) hb30
  have n24 := ne_fresh (e24 0) hb30
  have n26 := ne_fresh (e26 0) hb30
  have n28 := ne_fresh (e28 0) hb30
  simp [e8, e9, e10, e11, e13, e18, e20, e22, e24, e26, e28, n8, n9, n10, n11, n13, n18, n20, n22, n24, n26, n28]
  obtain ⟨H9, hH9⟩ : ∃ H9, H9 = H8.upd b30 (.cells [.int .i64 (ba.k : Int), nrowsA ba.next, boolsA ba.good]) := ⟨_, rfl⟩
  have f8 : ∀ off, cellsAt H9 b8 off = some (([.int .i64 (x.k : Int), nrowsA x.next, boolsA x.good] : List AV).drop off) := by intro off; rw [hH9]; simp [n8, e8]
  have f9 : ∀ off, cellsAt H9 b9 off = some (([.int .i64 (y.k : Int), nrowsA y.next, boolsA y.good] : List AV).drop off) := by intro off; rw [hH9]; simp [n9, e9]
  have f10 : ∀ off, cellsAt H9 b10 off = some (([.int .i64 (z.k : Int), nrowsA z.next, boolsA z.good] : List AV).drop off) := by intro off; rw [hH9]; simp [n10, e10]
  have f11 : ∀ off, cellsAt H9 b11 off = some (([.int .i64 (p.k : Int), nrowsA p.next, boolsA p.good] : List AV).drop off) := by intro off; rw [hH9]; simp [n11, e11]
  have f13 : ∀ off, cellsAt H9 b13 off = some (([.int .i64 (q.k : Int), nrowsA q.next, boolsA q.good] : List AV).drop off) := by intro off; rw [hH9]; simp [n13, e13]
  have f18 : ∀ off, cellsAt H9 b18 off = some (([.int .i64 (p.k : Int), nrowsA p.next, boolsA p.good] : List AV).drop off) := by intro off; rw [hH9]; simp [n18, e18]
  have f20 : ∀ off, cellsAt H9 b20 off = some (([.int .i64 (bo.k : Int), nrowsA bo.next, boolsA bo.good] : List AV).drop off) := by intro off; rw [hH9]; simp [n20, e20]
  have f22 : ∀ off, cellsAt H9 b22 off = some (([.int .i64 (le.k : Int), nrowsA le.next, boolsA le.good] : List AV).drop off) := by intro off; rw [hH9]; simp [n22, e22]
  have f24 : ∀ off, cellsAt H9 b24 off = some (([.int .i64 (mx.k : Int), nrowsA mx.next, boolsA mx.good] : List AV).drop off) := by intro off; rw [hH9]; simp [n24, e24]
  have f26 : ∀ off, cellsAt H9 b26 off = some (([.int .i64 (my.k : Int), nrowsA my.next, boolsA my.good] : List AV).drop off) := by intro off; rw [hH9]; simp [n26, e26]
  have f28 : ∀ off, cellsAt H9 b28 off = some (([.int .i64 (ri.k : Int), nrowsA ri.next, boolsA ri.good] : List AV).drop off) := by intro off; rw [hH9]; simp [n28, e28]
  have f30 : ∀ off, cellsAt H9 b30 off = some (([.int .i64 (ba.k : Int), nrowsA ba.next, boolsA ba.good] : List AV).drop off) := by intro off; rw [hH9]; simp
  rw [← hH9]
  clear hH9 e8 e9 e10 e11 e13 e18 e20 e22 e24 e26 e28 n8 n9 n10 n11 n13 n18 n20 n22 n24 n26 n28 hb30
  have e8 := f8
  have e9 := f9
  have e10 := f10
  have e11 := f11
  have e13 := f13
  have e18 := f18
  have e20 := f20
  have e22 := f22
  have e24 := f24
  have e26 := f26
  have e28 := f28
  have e30 := f30
  clear f8 f9 f10 f11 f13 f18 f20 f22 f24 f26 f28 f30
  refine cyz.use ?_
  simp
  intro b32 hb32
  have n8 := ne_fresh (e8 0) hb32
  have n9 := ne_fresh (e9 0) hb32
  have n10 := ne_fresh (e10 0) hb32
  have n11 := ne_fresh (e11 0) hb32
  have n13 := ne_fresh (e13 0) hb32
  have n18 := ne_fresh (e18 0) hb32
  have n20 := ne_fresh (e20 0) hb32
  have n22 := ne_fresh (e22 0) hb32
  have n24 := ne_fresh (e24 0) hb32
  have n26 := ne_fresh (e26 0) hb32
  have n28 := ne_fresh (e28 0) hb32
  have n30 := ne_fresh (e30 0) hb32
  simp [e8, e9, e10, e11, e13, e18, e20, e22, e24, e26, e28, e30, n8, n9, n10, n11, n13, n18, n20, n22, n24, n26, n28, n30]
  obtain ⟨H10, hH10⟩ : ∃ H10, H10 = H9.upd b32 (.cells [.int .i64 (yz.k : Int), nrowsA yz.next, boolsA yz.good]) := ⟨_, rfl⟩
  have f8 : ∀ off, cellsAt H10 b8 off = some (([.int .i64 (x.k : Int), nrowsA x.next, boolsA x.good] : List AV).drop off) := by intro off; rw [hH10]; simp [n8, e8]
  have f9 : ∀ off, cellsAt H10 b9 off = some (([.int .i64 (y.k : Int), nrowsA y.next, boolsA y.good] : List AV).drop off) := by intro off; rw [hH10]; simp [n9, e9]
  have f10 : ∀ off, cellsAt H10 b10 off = some (([.int .i64 (z.k : Int), nrowsA z.next, boolsA z.good] : List AV).drop off) := by intro off; rw [hH10]; simp [n10, e10]
  have f11 : ∀ off, cellsAt H10 b11 off = some (([.int .i64 (p.k : Int), nrowsA p.next, boolsA p.good] : List AV).drop off) := by intro off; rw [hH10]; simp [n11, e11]
  have f13 : ∀ off, cellsAt H10 b13 off = some (([.int .i64 (q.k : Int), nrowsA q.next, boolsA q.good] : List AV).drop off) := by intro off; rw [hH10]; simp [n13, e13]
  have f18 : ∀ off, cellsAt H10 b18 off = some (([.int .i64 (p.k : Int), nrowsA p.next, boolsA p.good] : List AV).drop off) := by intro off; rw [hH10]; simp [n18, e18]
  have f20 : ∀ off, cellsAt H10 b20 off = some (([.int .i64 (bo.k : Int), nrowsA bo.next, boolsA bo.good] : List AV).drop off) := by intro off; rw [hH10]; simp [n20, e20]
  have f22 : ∀ off, cellsAt H10 b22 off = some (([.int .i64 (le.k : Int), nrowsA le.next, boolsA le.good] : List AV).drop off) := by intro off; rw [hH10]; simp [n22, e22]
  have f24 : ∀ off, cellsAt H10 b24 off = some (([.int .i64 (mx.k : Int), nrowsA mx.next, boolsA mx.good] : List AV).drop off) := by intro off; rw [hH10]; simp [n24, e24]
  have f26 : ∀ off, cellsAt H10 b26 off = some (([.int .i64 (my.k : Int), nrowsA my.next, boolsA my.good] : List AV).drop off) := by intro off; rw [hH10]; simp [n26, e26]
  have f28 : ∀ off, cellsAt H10 b28 off = some (([.int .i64 (ri.k : Int), nrowsA ri.next, boolsA ri.good] : List AV).drop off) := by intro off; rw [hH10]; simp [n28, e28]
  have f30 : ∀ off, cellsAt H10 b30 off = some (([.int .i64 (ba.k : Int), nrowsA ba.next, boolsA ba.good] : List AV).drop off) := by intro off; rw [hH10]; simp [n30, e30]
  have f32 : ∀ off, cellsAt H10 b32 off = some (([.int .i64 (yz.k : Int), nrowsA yz.next, boolsA yz.good] : List AV).drop off) := by intro off; rw [hH10]; simp
  rw [← hH10]
  clear hH10 e8 e9 e10 e11 e13 e18 e20 e22 e24 e26 e28 e30 n8 n9 n10 n11 n13 n18 n20 n22 n24 n26 n28 n30 hb32
  have e8 := f8
  have e9 := f9
  have e10 := f10
  have e11 := f11
  have e13 := f13
  have e18 := f18
  have e20 := f20
  have e22 := f22
  have e24 := f24
  have e26 := f26
  have e28 := f28
  have e30 := f30
  have e32 := f32
  clear f8 f9 f10 f11 f13 f18 f20 f22 f24 f26 f28 f30 f32
  refine cov.use ?_
  simp
  intro b34 hb34
  have n8 := ne_fresh (e8 0) hb34
  have n9 := ne_fresh (e9 0) hb34
  have n10 := ne_fresh (e10 0) hb34
  have n11 := ne_fresh (e11 0) hb34
  have n13 := ne_fresh (e13 0) hb34
  have n18 := ne_fresh (e18 0) hb34
  have n20 := ne_fresh (e20 0) hb34
  have n22 := ne_fresh (e22 0) hb34
  have n24 := ne_fresh (e24 0) hb34
  have n26 := ne_fresh (e26 0) hb34
  have n28 := ne_fresh (e28 0) hb34
  have n30 := ne_fresh (e30 0) hb34
  have n32 := ne_fresh (e32 0) hb34
  simp [e8, e9, e10, e11, e13, e18, e20, e22, e24, e26, e28, e30, e32, n8, n9, n10, n11, n13, n18, n20, n22, n24, n26, n28, n30, n32]
  obtain ⟨H11, hH11⟩ : ∃ H11, H11 = H10.upd b34 (.cells [.int .i64 (ov.k : Int), nrowsA ov.next, boolsA ov.good]) := ⟨_, rfl⟩
  have f8 : ∀ off, cellsAt H11 b8 off = some (([.int .i64 (x.k : Int), nrowsA x.next, boolsA x.good] : List AV).drop off) := by intro off; rw [hH11]; simp [n8, e8]
  have f9 : ∀ off, cellsAt H11 b9 off = some (([.int .i64 (y.k : Int), nrowsA y.next, boolsA y.good] : List AV).drop off) := by intro off; rw [hH11]; simp [n9, e9]
  have f10 : ∀ off, cellsAt H11 b10 off = some (([.int .i64 (z.k : Int), nrowsA z.next, boolsA z.good] : List AV).drop off) := by intro off; rw [hH11]; simp [n10, e10]
  have f11 : ∀ off, cellsAt H11 b11 off = some (([.int .i64 (p.k : Int), nrowsA p.next, boolsA p.good] : List AV).drop off) := by intro off; rw [hH11]; simp [n11, e11]
  have f13 : ∀ off, cellsAt H11 b13 off = some (([.int .i64 (q.k : Int), nrowsA q.next, boolsA q.good] : List AV).drop off) := by intro off; rw [hH11]; simp [n13, e13]
  have f18 : ∀ off, cellsAt H11 b18 off = some (([.int .i64 (p.k : Int), nrowsA p.next, boolsA p.good] : List AV).drop off) := by intro off; rw [hH11]; simp [n18, e18]
  have f20 : ∀ off, cellsAt H11 b20 off = some (([.int .i64 (bo.k : Int), nrowsA bo.next, boolsA bo.good] : List AV).drop off) := by intro off; rw [hH11]; simp [n20, e20]
  have f22 : ∀ off, cellsAt H11 b22 off = some (([.int .i64 (le.k : Int), nrowsA le.next, boolsA le.good] : List AV).drop off) := by intro off; rw [hH11]; simp [n22, e22]
  have f24 : ∀ off, cellsAt H11 b24 off = some (([.int .i64 (mx.k : Int), nrowsA mx.next, boolsA mx.good] : List AV).drop off) := by intro off; rw [hH11]; simp [n24, e24]
  have f26 : ∀ off, cellsAt H11 b26 off = some (([.int .i64 (my.k : Int), nrowsA my.next, boolsA my.good] : List AV).drop off) := by intro off; rw [hH11]; simp [n26, e26]
  have f28 : ∀ off, cellsAt H11 b28 off = some (([.int .i64 (ri.k : Int), nrowsA ri.next, boolsA ri.good] : List AV).drop off) := by intro off; rw [hH11]; simp [n28, e28]
  have f30 : ∀ off, cellsAt H11 b30 off = some (([.int .i64 (ba.k : Int), nrowsA ba.next, boolsA ba.good] : List AV).drop off) := by intro off; rw [hH11]; simp [n30, e30]
  have f32 : ∀ off, cellsAt H11 b32 off = some (([.int .i64 (yz.k : Int), nrowsA yz.next, boolsA yz.good] : List AV).drop off) := by intro off; rw [hH11]; simp [n32, e32]
  have f34 : ∀ off, cellsAt H11 b34 off = some (([.int .i64 (ov.k : Int), nrowsA ov.next, boolsA ov.good] : List AV).drop off) := by intro off; rw [hH11]; simp
  rw [← hH11]
  clear hH11 e8 e9 e10 e11 e13 e18 e20 e22 e24 e26 e28 e30 e32 n8 n9 n10 n11 n13 n18 n20 n22 n24 n26 n28 n30 n32 hb34
  have e8 := f8
  have e9 := f9
  have e10 := f10
  have e11 := f11
  have e13 := f13
  have e18 := f18
  have e20 := f20
  have e22 := f22
  have e24 := f24
  have e26 := f26
  have e28 := f28
  have e30 := f30
  have e32 := f32
  have e34 := f34
  clear f8 f9 f10 f11 f13 f18 f20 f22 f24 f26 f28 f30 f32 f34
  refine cxz.use ?_
  simp
  intro b36 hb36
  have n8 := ne_fresh (e8 0) hb36
  have n9 := ne_fresh (e9 0) hb36
  have n10 := ne_fresh (e10 0) hb36
  have n11 := ne_fresh (e11 0) hb36
  have n13 := ne_fresh (e13 0) hb36
  have n18 := ne_fresh (e18 0) hb36
  have n20 := ne_fresh (e20 0) hb36
  have n22 := ne_fresh (e22 0) hb36
  have n24 := ne_fresh (e24 0) hb36
  have n26 := ne_fresh (e26 0) hb36
  have n28 := ne_fresh (e28 0) hb36
  have n30 := ne_fresh (e30 0) hb36
  have n32 := ne_fresh (e32 0) hb36
  have n34 := ne_fresh (e34 0) hb36
  simp [e8, e9, e10, e11, e13, e18, e20, e22, e24, e26, e28, e30, e32, e34, n8, n9, n10, n11, n13, n18, n20, n22, n24, n26, n28, n30, n32, n34]
  obtain ⟨H12, hH12⟩ : ∃ H12, H12 = H11.upd b36 (.cells [.int .i64 (xz.k : Int), nrowsA xz.next, boolsA xz.good]) := ⟨_, rfl⟩
  have f8 : ∀ off, cellsAt H12 b8 off = some (([.int .i64 (x.k : Int), nrowsA x.next, boolsA x.good] : List AV).drop off) := by intro off; rw [hH12]; simp [n8, e8]
  have f9 : ∀ off, cellsAt H12 b9 off = some (([.int .i64 (y.k : Int), nrowsA y.next, boolsA y.good] : List AV).drop off) := by intro off; rw [hH12]; simp [n9, e9]
  have f10 : ∀ off, cellsAt H12 b10 off = some (([.int .i64 (z.k : Int), nrowsA z.next, boolsA z.good] : List AV).drop off) := by intro off; rw [hH12]; simp [n10, e10]
  have f11 : ∀ off, cellsAt H12 b11 off = some (([.int .i64 (p.k : Int), nrowsA p.next, boolsA p.good] : List AV).drop off) := by intro off; rw [hH12]; simp [n11, e11]
  have f13 : ∀ off, cellsAt H12 b13 off = some (([.int .i64 (q.k : Int), nrowsA q.next, boolsA q.good] : List AV).drop off) := by intro off; rw [hH12]; simp [n13, e13]
  have f18 : ∀ off, cellsAt H12 b18 off = some (([.int .i64 (p.k : Int), nrowsA p.next, boolsA p.good] : List AV).drop off) := by intro off; rw [hH12]; simp [n18, e18]
  have f20 : ∀ off, cellsAt H12 b20 off = some (([.int .i64 (bo.k : Int), nrowsA bo.next, boolsA bo.good] : List AV).drop off) := by intro off; rw [hH12]; simp [n20, e20]
  have f22 : ∀ off, cellsAt H12 b22 off = some (([.int .i64 (le.k : Int), nrowsA le.next, boolsA le.good] : List AV).drop off) := by intro off; rw [hH12]; simp [n22, e22]
  have f24 : ∀ off, cellsAt H12 b24 off = some (([.int .i64 (mx.k : Int), nrowsA mx.next, boolsA mx.good] : List AV).drop off) := by intro off; rw [hH12]; simp [n24, e24]
  have f26 : ∀ off, cellsAt H12 b26 off = some (([.int .i64 (my.k : Int), nrowsA my.next, boolsA my.good] : List AV).drop off) := by intro off; rw [hH12]; simp [n26, e26]
  have f28 : ∀ off, cellsAt H12 b28 off = some (([.int .i64 (ri.k : Int), nrowsA ri.next, boolsA ri.good] : List AV).drop off) := by intro off; rw [hH12]; simp [n28, e28]
  have f30 : ∀ off, cellsAt H12 b30 off = some (([.int .i64 (ba.k : Int), nrowsA ba.next, boolsA ba.good] : List AV).drop off) := by intro off; rw [hH12]; simp [n30, e30]
  have f32 : ∀ off, cellsAt H12 b32 off = some (([.int .i64 (yz.k : Int), nrowsA yz.next, boolsA yz.good] : List AV).drop off) := by intro off; rw [hH12]; simp [n32, e32]
  have f34 : ∀ off, cellsAt H12 b34 off = some (([.int .i64 (ov.k : Int), nrowsA ov.next, boolsA ov.good] : List AV).drop off) := by intro off; rw [hH12]; simp [n34, e34]
  have f36 : ∀ off, cellsAt H12 b36 off = some (([.int .i64 (xz.k : Int), nrowsA xz.next, boolsA xz.good] : List AV).drop off) := by intro off; rw [hH12]; simp
  rw [← hH12]
  clear hH12 e8 e9 e10 e11 e13 e18 e20 e22 e24 e26 e28 e30 e32 e34 n8 n9 n10 n11 n13 n18 n20 n22 n24 n26 n28 n30 n32 n34 hb36
  have e8 := f8
  have e9 := f9
  have e10 := f10
  have e11 := f11
  have e13 := f13
  have e18 := f18
  have e20 := f20
  have e22 := f22
  have e24 := f24
  have e26 := f26
  have e28 := f28
  have e30 := f30
  have e32 := f32
  have e34 := f34
  have e36 := f36
  clear f8 f9 f10 f11 f13 f18 f20 f22 f24 f26 f28 f30 f32 f34 f36
  refine csu.use ?_
  simp
  intro b38 hb38
  have n8 := ne_fresh (e8 0) hb38
  have n9 := ne_fresh (e9 0) hb38
  have n10 := ne_fresh (e10 0) hb38
  have n11 := ne_fresh (e11 0) hb38
  have n13 := ne_fresh (e13 0) hb38
  have n18 := ne_fresh (e18 0) hb38
  have n20 := ne_fresh (e20 0) hb38
  have n22 := ne_fresh (e22 0) hb38
  have n24 := ne_fresh (e24 0) hb38
  have n26 := ne_fresh (e26 0) hb38
  have n28 := ne_fresh (e28 0) hb38
  have n30 := ne_fresh (e30 0) hb38
  have n32 := ne_fresh (e32 0) hb38
  have n34 := ne_fresh (e34 0) hb38
  have n36 := ne_fresh (e36 0) hb38
  simp [e8, e9, e10, e11, e13, e18, e20, e22, e24, e26, e28, e30, e32, e34, e36, n8, n9, n10, n11, n13, n18, n20, n22, n24, n26, n28, n30, n32, n34, n36]
  obtain ⟨H13, hH13⟩ : ∃ H13, H13 = H12.upd b38 (.cells [.int .i64 (su.k : Int), nrowsA su.next, boolsA su.good]) := ⟨_, rfl⟩
  have f8 : ∀ off, cellsAt H13 b8 off = some (([.int .i64 (x.k : Int), nrowsA x.next, boolsA x.good] : List AV).drop off) := by intro off; rw [hH13]; simp [n8, e8]
  have f9 : ∀ off, cellsAt H13 b9 off = some (([.int .i64 (y.k : Int), nrowsA y.next, boolsA y.good] : List AV).drop off) := by intro off; rw [hH13]; simp [n9, e9]
  have f10 : ∀ off, cellsAt H13 b10 off = some (([.int .i64 (z.k : Int), nrowsA z.next, boolsA z.good] : List AV).drop off) := by intro off; rw [hH13]; simp [n10, e10]
  have f11 : ∀ off, cellsAt H13 b11 off = some (([.int .i64 (p.k : Int), nrowsA p.next, boolsA p.good] : List AV).drop off) := by intro off; rw [hH13]; simp [n11, e11]
  have f13 : ∀ off, cellsAt H13 b13 off = some (([.int .i64 (q.k : Int), nrowsA q.next, boolsA q.good] : List AV).drop off) := by intro off; rw [hH13]; simp [n13, e13]
  have f18 : ∀ off, cellsAt H13 b18 off = some (([.int .i64 (p.k : Int), nrowsA p.next, boolsA p.good] : List AV).drop off) := by intro off; rw [hH13]; simp [n18, e18]
  have f20 : ∀ off, cellsAt H13 b20 off = some (([.int .i64 (bo.k : Int), nrowsA bo.next, boolsA bo.good] : List AV).drop off) := by intro off; rw [hH13]; simp [n20, e20]
  have f22 : ∀ off, cellsAt H13 b22 off = some (([.int .i64 (le.k : Int), nrowsA le.next, boolsA le.good] : List AV).drop off) := by intro off; rw [hH13]; simp [n22, e22]
  have f24 : ∀ off, cellsAt H13 b24 off = some (([.int .i64 (mx.k : Int), nrowsA mx.next, boolsA mx.good] : List AV).drop off) := by intro off; rw [hH13]; simp [n24, e24]
  have f26 : ∀ off, cellsAt H13 b26 off = some (([.int .i64 (my.k : Int), nrowsA my.next, boolsA my.good] : List AV).drop off) := by intro off; rw [hH13]; simp [n26, e26]
  have f28 : ∀ off, cellsAt H13 b28 off = some (([.int .i64 (ri.k : Int), nrowsA ri.next, boolsA ri.good] : List AV).drop off) := by intro off; rw [hH13]; simp [n28, e28]
  have f30 : ∀ off, cellsAt H13 b30 off = some (([.int .i64 (ba.k : Int), nrowsA ba.next, boolsA ba.good] : List AV).drop off) := by intro off; rw [hH13]; simp [n30, e30]
  have f32 : ∀ off, cellsAt H13 b32 off = some (([.int .i64 (yz.k : Int), nrowsA yz.next, boolsA yz.good] : List AV).drop off) := by intro off; rw [hH13]; simp [n32, e32]
  have f34 : ∀ off, cellsAt H13 b34 off = some (([.int .i64 (ov.k : Int), nrowsA ov.next, boolsA ov.good] : List AV).drop off) := by intro off; rw [hH13]; simp [n34, e34]
  have f36 : ∀ off, cellsAt H13 b36 off = some (([.int .i64 (xz.k : Int), nrowsA xz.next, boolsA xz.good] : List AV).drop off) := by intro off; rw [hH13]; simp [n36, e36]
  have f38 : ∀ off, cellsAt H13 b38 off = some (([.int .i64 (su.k : Int), nrowsA su.next, boolsA su.good] : List AV).drop off) := by intro off; rw [hH13]; simp
  rw [← hH13]
  clear hH13 e8 e9 e10 e11 e13 e18 e20 e22 e24 e26 e28 e30 e32 e34 e36 n8 n9 n10 n11 n13 n18 n20 n22 n24 n26 n28 n30 n32 n34 n36 hb38
  have e8 := f8
  have e9 := f9
  have e10 := f10
  have e11 := f11
  have e13 := f13
  have e18 := f18
  have e20 := f20
  have e22 := f22
  have e24 := f24
  have e26 := f26
  have e28 := f28
  have e30 := f30
  have e32 := f32
  have e34 := f34
  have e36 := f36
  have e38 := f38
  clear f8 f9 f10 f11 f13 f18 f20 f22 f24 f26 f28 f30 f32 f34 f36 f38
  refine ctu.use ?_
  simp
  intro b40 hb40
  have n8 := ne_fresh (e8 0) hb40
  have n9 := ne_fresh (e9 0) hb40
  have n10 := ne_fresh (e10 0) hb40
  have n11 := ne_fresh (e11 0) hb40
  have n13 := ne_fresh (e13 0) hb40
  have n18 := ne_fresh (e18 0) hb40
  have n20 := ne_fresh (e20 0) hb40
  have n22 := ne_fresh (e22 0) hb40
  have n24 := ne_fresh (e24 0) hb40
  have n26 := ne_fresh (e26 0) hb40
  have n28 := ne_fresh (e28 0) hb40
  have n30 := ne_fresh (e30 0) hb40
  have n32 := ne_fresh (e32 0) hb40
  have n34 := ne_fresh (e34 0) hb40
  have n36 := ne_fresh (e36 0) hb40
  have n38 := ne_fresh (e38 0) hb40
  simp [e8, e9, e10, e11, e13, e18, e20, e22, e24, e26, e28, e30, e32, e34, e36, e38, n8, n9, n10, n11, n13, n18, n20, n22, n24, n26, n28, n30, n32, n34, n36, n38]
  obtain ⟨H14, hH14⟩ : ∃ H14, H14 = H13.upd b40 (.cells [.int .i64 (tu.k : Int), nrowsA tu.next, boolsA tu.good]) := ⟨_, rfl⟩
  have f8 : ∀ off, cellsAt H14 b8 off = some (([.int .i64 (x.k : Int), nrowsA x.next, boolsA x.good] : List AV).drop off) := by intro off; rw [hH14]; simp [n8, e8]
  have f9 : ∀ off, cellsAt H14 b9 off = some (([.int .i64 (y.k : Int), nrowsA y.next, boolsA y.good] : List AV).drop off) := by intro off; rw [hH14]; simp [n9, e9]
  have f10 : ∀ off, cellsAt H14 b10 off = some (([.int .i64 (z.k : Int), nrowsA z.next, boolsA z.good] : List AV).drop off) := by intro off; rw [hH14]; simp [n10, e10]
  have f11 : ∀ off, cellsAt H14 b11 off = some (([.int .i64 (p.k : Int), nrowsA p.next, boolsA p.good] : List AV).drop off) := by intro off; rw [hH14]; simp [n11, e11]
  have f13 : ∀ off, cellsAt H14 b13 off = some (([.int .i64 (q.k : Int), nrowsA q.next, boolsA q.good] : List AV).drop off) := by intro off; rw [hH14]; simp [n13, e13]
  have f18 : ∀ off, cellsAt H14 b18 off = some (([.int .i64 (p.k : Int), nrowsA p.next, boolsA p.good] : List AV).drop off) := by intro off; rw [hH14]; simp [n18, e18]
  have f20 : ∀ off, cellsAt H14 b20 off = some (([.int .i64 (bo.k : Int), nrowsA bo.next, boolsA bo.good] : List AV).drop off) := by intro off; rw [hH14]; simp [n20, e20]
  have f22 : ∀ off, cellsAt H14 b22 off = some (([.int .i64 (le.k : Int), nrowsA le.next, boolsA le.good] : List AV).drop off) := by intro off; rw [hH14]; simp [n22, e22]
  have f24 : ∀ off, cellsAt H14 b24 off = some (([.int .i64 (mx.k : Int), nrowsA mx.next, boolsA mx.good] : List AV).drop off) := by intro off; rw [hH14]; simp [n24, e24]
  have f26 : ∀ off, cellsAt H14 b26 off = some (([.int .i64 (my.k : Int), nrowsA my.next, boolsA my.good] : List AV).drop off) := by intro off; rw [hH14]; simp [n26, e26]
  have f28 : ∀ off, cellsAt H14 b28 off = some (([.int .i64 (ri.k : Int), nrowsA ri.next, boolsA ri.good] : List AV).drop off) := by intro off; rw [hH14]; simp [n28, e28]
  have f30 : ∀ off, cellsAt H14 b30 off = some (([.int .i64 (ba.k : Int), nrowsA ba.next, boolsA ba.good] : List AV).drop off) := by intro off; rw [hH14]; simp [n30, e30]
  have f32 : ∀ off, cellsAt H14 b32 off = some (([.int .i64 (yz.k : Int), nrowsA yz.next, boolsA yz.good] : List AV).drop off) := by intro off; rw [hH14]; simp [n32, e32]
  have f34 : ∀ off, cellsAt H14 b34 off = some (([.int .i64 (ov.k : Int), nrowsA ov.next, boolsA ov.good] : List AV).drop off) := by intro off; rw [hH14]; simp [n34, e34]
  have f36 : ∀ off, cellsAt H14 b36 off = some (([.int .i64 (xz.k : Int), nrowsA xz.next, boolsA xz.good] : List AV).drop off) := by intro off; rw [hH14]; simp [n36, e36]
  have f38 : ∀ off, cellsAt H14 b38 off = some (([.int .i64 (su.k : Int), nrowsA su.next, boolsA su.good] : List AV).drop off) := by intro off; rw [hH14]; simp [n38, e38]
  have f40 : ∀ off, cellsAt H14 b40 off = some (([.int .i64 (tu.k : Int), nrowsA tu.next, boolsA tu.good] : List AV).drop off) := by intro off; rw [hH14]; simp
  rw [← hH14]
  clear hH14 e8 e9 e10 e11 e13 e18 e20 e22 e24 e26 e28 e30 e32 e34 e36 e38 n8 n9 n10 n11 n13 n18 n20 n22 n24 n26 n28 n30 n32 n34 n36 n38 hb40
  have e8 := f8
  have e9 := f9
  have e10 := f10
  have e11 := f11
  have e13 := f13
  have e18 := f18
  have e20 := f20
  have e22 := f22
  have e24 := f24
  have e26 := f26
  have e28 := f28
  have e30 := f30
  have e32 := f32
  have e34 := f34
  have e36 := f36
  have e38 := f38
  have e40 := f40
  clear f8 f9 f10 f11 f13 f18 f20 f22 f24 f26 f28 f30 f32 f34 f36 f38 f40
  refine a3.use ?_
  simp [e8, e9, e10, e11, e13, e18, e20, e22, e24, e26, e28, e30, e32, e34, e36, e38, e40]
  refine a4.use ?_
  simp [e8, e9, e10, e11, e13, e18, e20, e22, e24, e26, e28, e30, e32, e34, e36, e38, e40]
  refine a5.use ?_
  simp [e8, e9, e10, e11, e13, e18, e20, e22, e24, e26, e28, e30, e32, e34, e36, e38, e40]
  refine a6.use ?_
  simp [e8, e9, e10, e11, e13, e18, e20, e22, e24, e26, e28, e30, e32, e34, e36, e38, e40]
  refine w_awake.use ?_
  simp [e8, e9, e10, e11, e13, e18, e20, e22, e24, e26, e28, e30, e32, e34, e36, e38, e40]
  exact finA_drop rfl
end Go.Proofs
