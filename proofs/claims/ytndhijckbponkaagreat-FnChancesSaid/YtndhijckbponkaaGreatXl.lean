import Derived.Test.YtndhijckbponkaaGreatXk
import Derived.Test.YtndhijckbponkaaGreatPkX16
import Derived.Test.YtndhijckbponkaaGreatPkX17
import Derived.Test.YtndhijckbponkaaGreatPkX18
import Derived.Test.YtndhijckbponkaaGreatXb
import Derived.Test.YtndhijckbponkaaGreatRz
import Derived.Test.YtndhijckbponkaaGreatPq
import Derived.Test.YtndhijckbponkaaGreatUc
/- the law FnChances -/
namespace Go.Proofs.YtndhijckbponkaaGreat
open Go.RowKit

set_option maxRecDepth 100000 in
set_option maxHeartbeats 4000000 in
theorem law_FnChances (v : Value) (n : Nat) (w : World) (h : Code w v n) :
    Calls Tryz.prog 3 #[v] w fun e w' => e = .returned (.bool true) ∧ Chg No w w' := by
  obtain ⟨ca0, cc0, rfl⟩ := h.shape
  go_enter Tryz.func3, Tryz.ntmps3
  go_wp2_with fail
  refine (vBig_any _ n w h).mono ?_
  rintro e w1 ⟨rfl, rfl⟩
  by_cases hbig : (65536 : Int) < (n : Int)
  · rw [decide_eq_true hbig]
    go_wp2_with fail
    go_ret
    exact ⟨rfl, Chg.refl _ _⟩
  · rw [decide_eq_false hbig]
    go_wp2_with fail
    refine (DrawIsChances_any _ n w1 h (by omega)).mono ?_
    rintro e w2 ⟨pv, cv, P, qs, cw, rfl, hP, hC, k2⟩
    obtain ⟨m, s⟩ := P
    obtain ⟨mv, sv', rfl, hm, hs⟩ := id hP
    dsimp only at hm hs
    obtain ⟨ma, mc, rfl, _⟩ := hm.view
    obtain ⟨sa, sc, rfl, _⟩ := hs.view
    obtain ⟨wv, qv, rfl, hw, hq⟩ := id hC
    obtain ⟨wa, wc, rfl, _⟩ := id hw
    obtain ⟨qa, qc, rfl⟩ := hq.shape
    clear hm hs hw hq
    go_wp2_with fail
    refine bx2 (R := fun W => Calls _ _ _ W _) (fun W0 k0 b3 b4 => ?_)
    replace hP := hP.keep k0
    replace hC := hC.keep k0
    have kk := k2.keep k0
    obtain ⟨X3, hX3⟩ : ∃ X, w2.heap.size = X := ⟨_, rfl⟩
    rw [hX3] at b3 b4 ⊢
    clear k0 hX3 k2
    obtain ⟨ch, hch⟩ : ∃ ch, chaB ⟨m, s⟩ qs cw = ch := ⟨_, rfl⟩
    obtain ⟨gp, hgp⟩ : ∃ gp, bP (PrP ⟨m, s⟩) = gp := ⟨_, rfl⟩
    have HV := Lib.hid (And.intro hch hgp)
    clear hch hgp
    refine (implIsChances_any No _ _ ⟨m, s⟩ qs cw W0 hP hC).mono ?_
    rintro e w5 ⟨_, _, rfl, rfl, rfl, k5⟩
    rw [HV.out.1, HV.out.2]
    replace kk := kk.keep k5
    replace b3 := b3.keep k5
    replace b4 := b4.keep k5
    replace hP := hP.keep k5
    replace hC := hC.keep k5
    have g0 := b3.c 0 _ rfl
    have g1 := b3.c 1 _ rfl
    have g2 := b4.c 0 _ rfl
    have g3 := b4.c 1 _ rfl
    clear k5
    go_wp2_with fail
    refine (specIsChances_any No _ _ ⟨m, s⟩ qs cw w5 hP hC).mono ?_
    rintro e w6 ⟨_, _, rfl, rfl, rfl, k6⟩
    rw [HV.out.1, HV.out.2]
    replace kk := kk.keep k6
    clear g0 g1 g2 g3 b3 b4 hP hC k6
    go_wp2_with fail
    refine (vCut_any _ _ 1 w6 (h.keep kk) (by omega) (by omega)).mono ?_
    rintro e w7 ⟨vc, nc, rfl, hcode, hnc, k7⟩
    replace kk := kk.keep k7
    clear k7
    go_wp2_with fail
    refine (DrawExpectedCost_any _ nc w7 hcode hnc).mono ?_
    rintro e w8 ⟨pv2, nv, cv2, st, P2, nx, ds, dw, rfl, hQ, hN, hD, k8⟩
    obtain ⟨m2, s2⟩ := P2
    obtain ⟨mv2, sv2, rfl, hm2, hs2⟩ := id hQ
    dsimp only at hm2 hs2
    obtain ⟨ma2, mc2, rfl, _⟩ := hm2.view
    obtain ⟨sa2, sc2, rfl, _⟩ := hs2.view
    obtain ⟨dwv, dqv, rfl, hdw, hdq⟩ := id hD
    obtain ⟨da, dc, rfl, _⟩ := id hdw
    obtain ⟨ea, ec, rfl⟩ := hdq.shape
    obtain ⟨na, nnc, rfl⟩ := hN.shape
    replace kk := kk.keep k8
    clear hm2 hs2 hdw hdq k8
    go_wp2_with fail
    refine bx2 (R := fun W => Calls _ _ _ W _) (fun W1 k0 c1 c2 => ?_)
    obtain ⟨X9, hX9⟩ : ∃ X, w8.heap.size = X := ⟨_, rfl⟩
    rw [hX9] at c1 c2 ⊢
    clear hX9
    replace kk := kk.keep k0
    replace hQ := hQ.keep k0
    replace hN := hN.keep k0
    replace hD := hD.keep k0
    have g0 := c1.c 0 _ rfl
    have g1 := c1.c 1 _ rfl
    have g2 := c2.c 0 _ rfl
    have g3 := c2.c 1 _ rfl
    clear k0
    obtain ⟨f1, hf1⟩ : ∃ f, ecoV ⟨m2, s2⟩ nx st ds dw = f := ⟨_, rfl⟩
    obtain ⟨f2, hf2⟩ : ∃ f, eleV ⟨m2, s2⟩ st ds dw = f := ⟨_, rfl⟩
    obtain ⟨f3, hf3⟩ : ∃ f, bexV ⟨m2, s2⟩ st ds dw = f := ⟨_, rfl⟩
    have HFV := Lib.hid (And.intro hf1 (And.intro hf2 hf3))
    clear hf1 hf2 hf3
    refine (implExpectedCost_any No No _ _ _ ⟨m2, s2⟩ nx st ds dw W1 hQ hN hD).mono ?_
    rintro e y0 ⟨_, _, rfl, rfl, rfl, k9⟩
    rw [HFV.out.1]
    clear g0 g1 g2 g3
    replace kk := kk.keep k9
    replace hQ := hQ.keep k9
    replace hN := hN.keep k9
    replace hD := hD.keep k9
    replace c1 := c1.keep k9
    replace c2 := c2.keep k9
    have ka := (Chg.refl No y0).alloc (.cells #[.int .i64 f1.num, .int .i64 f1.den] 38)
    have d0 := BoxN.new y0 #[.int .i64 f1.num, .int .i64 f1.den] 38
    replace kk := kk.keep ka
    replace hQ := hQ.keep ka
    replace hN := hN.keep ka
    replace hD := hD.keep ka
    replace c1 := c1.keep ka
    replace c2 := c2.keep ka
    obtain ⟨D0, hD0⟩ : ∃ X, y0.heap.size = X := ⟨_, rfl⟩
    rw [hD0] at d0
    have g0 := c1.c 0 _ rfl
    have g1 := c1.c 1 _ rfl
    have g2 := c2.c 0 _ rfl
    have g3 := c2.c 1 _ rfl
    clear k9 ka
    go_wp2_with fail
    clear hD0
    generalize y0.alloc _ = z0 at kk hQ hN hD c1 c2 g0 g1 g2 g3 d0 ⊢
    refine (specExpectedCost_any No No _ _ _ ⟨m2, s2⟩ nx st ds dw z0 hQ hN hD).mono ?_
    rintro e y1 ⟨_, _, rfl, rfl, rfl, k9⟩
    rw [HFV.out.1]
    clear g0 g1 g2 g3
    replace kk := kk.keep k9
    replace hQ := hQ.keep k9
    replace hN := hN.keep k9
    replace hD := hD.keep k9
    replace c1 := c1.keep k9
    replace c2 := c2.keep k9
    replace d0 := d0.keep k9
    have ka := (Chg.refl No y1).alloc (.cells #[.int .i64 f1.num, .int .i64 f1.den] 38)
    have d1 := BoxN.new y1 #[.int .i64 f1.num, .int .i64 f1.den] 38
    replace kk := kk.keep ka
    replace hQ := hQ.keep ka
    replace hN := hN.keep ka
    replace hD := hD.keep ka
    replace c1 := c1.keep ka
    replace c2 := c2.keep ka
    replace d0 := d0.keep ka
    obtain ⟨D1, hD1⟩ : ∃ X, y1.heap.size = X := ⟨_, rfl⟩
    rw [hD1] at d1
    have g0 := c1.c 0 _ rfl
    have g1 := c1.c 1 _ rfl
    have g2 := c2.c 0 _ rfl
    have g3 := c2.c 1 _ rfl
    clear k9 ka
    go_wp2_with fail
    clear hD1
    generalize y1.alloc _ = z1 at kk hQ hN hD c1 c2 g0 g1 g2 g3 d0 d1 ⊢
    refine (implExpectedLeast_any No _ _ ⟨m2, s2⟩ st ds dw z1 hQ hD).mono ?_
    rintro e y2 ⟨_, _, rfl, rfl, rfl, k9⟩
    rw [HFV.out.2.1]
    clear g0 g1 g2 g3
    replace kk := kk.keep k9
    replace hQ := hQ.keep k9
    replace hN := hN.keep k9
    replace hD := hD.keep k9
    replace c1 := c1.keep k9
    replace c2 := c2.keep k9
    replace d0 := d0.keep k9
    replace d1 := d1.keep k9
    have ka := (Chg.refl No y2).alloc (.cells #[.int .i64 f2.num, .int .i64 f2.den] 38)
    have d2 := BoxN.new y2 #[.int .i64 f2.num, .int .i64 f2.den] 38
    replace kk := kk.keep ka
    replace hQ := hQ.keep ka
    replace hN := hN.keep ka
    replace hD := hD.keep ka
    replace c1 := c1.keep ka
    replace c2 := c2.keep ka
    replace d0 := d0.keep ka
    replace d1 := d1.keep ka
    obtain ⟨D2, hD2⟩ : ∃ X, y2.heap.size = X := ⟨_, rfl⟩
    rw [hD2] at d2
    have g0 := c1.c 0 _ rfl
    have g1 := c1.c 1 _ rfl
    have g2 := c2.c 0 _ rfl
    have g3 := c2.c 1 _ rfl
    clear k9 ka
    go_wp2_with fail
    clear hD2
    generalize y2.alloc _ = z2 at kk hQ hN hD c1 c2 g0 g1 g2 g3 d0 d1 d2 ⊢
    refine (specExpectedLeast_any No _ _ ⟨m2, s2⟩ st ds dw z2 hQ hD).mono ?_
    rintro e y3 ⟨_, _, rfl, rfl, rfl, k9⟩
    rw [HFV.out.2.1]
    clear g0 g1 g2 g3
    replace kk := kk.keep k9
    replace hQ := hQ.keep k9
    replace hN := hN.keep k9
    replace hD := hD.keep k9
    replace c1 := c1.keep k9
    replace c2 := c2.keep k9
    replace d0 := d0.keep k9
    replace d1 := d1.keep k9
    replace d2 := d2.keep k9
    have ka := (Chg.refl No y3).alloc (.cells #[.int .i64 f2.num, .int .i64 f2.den] 38)
    have d3 := BoxN.new y3 #[.int .i64 f2.num, .int .i64 f2.den] 38
    replace kk := kk.keep ka
    replace hQ := hQ.keep ka
    replace hN := hN.keep ka
    replace hD := hD.keep ka
    replace c1 := c1.keep ka
    replace c2 := c2.keep ka
    replace d0 := d0.keep ka
    replace d1 := d1.keep ka
    replace d2 := d2.keep ka
    obtain ⟨D3, hD3⟩ : ∃ X, y3.heap.size = X := ⟨_, rfl⟩
    rw [hD3] at d3
    have g0 := c1.c 0 _ rfl
    have g1 := c1.c 1 _ rfl
    have g2 := c2.c 0 _ rfl
    have g3 := c2.c 1 _ rfl
    clear k9 ka
    go_wp2_with fail
    clear hD3
    generalize y3.alloc _ = z3 at kk hQ hN hD c1 c2 g0 g1 g2 g3 d0 d1 d2 d3 ⊢
    refine (implBestExpected_any No _ _ ⟨m2, s2⟩ st ds dw z3 hQ hD).mono ?_
    rintro e y4 ⟨_, _, rfl, rfl, rfl, k9⟩
    rw [HFV.out.2.2]
    clear g0 g1 g2 g3
    replace kk := kk.keep k9
    replace hQ := hQ.keep k9
    replace hN := hN.keep k9
    replace hD := hD.keep k9
    replace c1 := c1.keep k9
    replace c2 := c2.keep k9
    replace d0 := d0.keep k9
    replace d1 := d1.keep k9
    replace d2 := d2.keep k9
    replace d3 := d3.keep k9
    have ka := (Chg.refl No y4).alloc (.cells #[.int .i64 f3.num, .int .i64 f3.den] 38)
    have d4 := BoxN.new y4 #[.int .i64 f3.num, .int .i64 f3.den] 38
    replace kk := kk.keep ka
    replace hQ := hQ.keep ka
    replace hN := hN.keep ka
    replace hD := hD.keep ka
    replace c1 := c1.keep ka
    replace c2 := c2.keep ka
    replace d0 := d0.keep ka
    replace d1 := d1.keep ka
    replace d2 := d2.keep ka
    replace d3 := d3.keep ka
    obtain ⟨D4, hD4⟩ : ∃ X, y4.heap.size = X := ⟨_, rfl⟩
    rw [hD4] at d4
    have g0 := c1.c 0 _ rfl
    have g1 := c1.c 1 _ rfl
    have g2 := c2.c 0 _ rfl
    have g3 := c2.c 1 _ rfl
    clear k9 ka
    go_wp2_with fail
    clear hD4
    generalize y4.alloc _ = z4 at kk hQ hN hD c1 c2 g0 g1 g2 g3 d0 d1 d2 d3 d4 ⊢
    refine (specBestExpected_any No _ _ ⟨m2, s2⟩ st ds dw z4 hQ hD).mono ?_
    rintro e y5 ⟨_, _, rfl, rfl, rfl, k9⟩
    rw [HFV.out.2.2]
    clear g0 g1 g2 g3
    replace kk := kk.keep k9
    replace hQ := hQ.keep k9
    replace hN := hN.keep k9
    replace hD := hD.keep k9
    replace c1 := c1.keep k9
    replace c2 := c2.keep k9
    replace d0 := d0.keep k9
    replace d1 := d1.keep k9
    replace d2 := d2.keep k9
    replace d3 := d3.keep k9
    replace d4 := d4.keep k9
    have ka := (Chg.refl No y5).alloc (.cells #[.int .i64 f3.num, .int .i64 f3.den] 38)
    have d5 := BoxN.new y5 #[.int .i64 f3.num, .int .i64 f3.den] 38
    replace kk := kk.keep ka
    replace hQ := hQ.keep ka
    replace hN := hN.keep ka
    replace hD := hD.keep ka
    replace c1 := c1.keep ka
    replace c2 := c2.keep ka
    replace d0 := d0.keep ka
    replace d1 := d1.keep ka
    replace d2 := d2.keep ka
    replace d3 := d3.keep ka
    replace d4 := d4.keep ka
    obtain ⟨D5, hD5⟩ : ∃ X, y5.heap.size = X := ⟨_, rfl⟩
    rw [hD5] at d5
    have g0 := c1.c 0 _ rfl
    have g1 := c1.c 1 _ rfl
    have g2 := c2.c 0 _ rfl
    have g3 := c2.c 1 _ rfl
    have e0 := d0.c 0 _ rfl
    have j0 := d0.c 1 _ rfl
    have e1 := d1.c 0 _ rfl
    have j1 := d1.c 1 _ rfl
    have e2 := d2.c 0 _ rfl
    have j2 := d2.c 1 _ rfl
    have e3 := d3.c 0 _ rfl
    have j3 := d3.c 1 _ rfl
    have e4 := d4.c 0 _ rfl
    have j4 := d4.c 1 _ rfl
    have e5 := d5.c 0 _ rfl
    have j5 := d5.c 1 _ rfl
    clear k9 ka
    clear hD5
    cases hok : f3.ok
    · go_wp2_with fail
      go_ret
      exact ⟨rfl, kk⟩
    have hB : drawB ⟨m2, s2⟩ st ds dw = true := by
      cases hx : drawB ⟨m2, s2⟩ st ds dw
      · have e := HFV.out.2.2
        unfold bexV at e
        rw [hx] at e
        rw [← e] at hok
        cases hok
      · rfl
    obtain ⟨S, rfl, F⟩ := BrF.of hB
    obtain ⟨l1, l2, l3, l4⟩ := chances_law F
    rw [HFV.out.2.1] at l1 l3
    rw [HFV.out.2.2] at l2 l3 l4
    have HF9 := Lib.hid (And.intro F (And.intro l1 (And.intro l2 (And.intro l3 l4))))
    clear hB F l1 l2 l3 l4
    go_wp2_with fail
    generalize y5.alloc _ = z5 at kk hQ hN hD c1 c2 g0 g1 g2 g3 d0 d1 d2 d3 d4 d5 ⊢
    refine (greedyAlgorithm_any No _ ⟨m2, s2⟩ z5 HF9.out.1.pr hQ).mono ?_
    rintro e u1 ⟨_, _, rfl, rfl, gx, hgx, hga, k9⟩
    obtain ⟨ga, gc, rfl⟩ := hgx.shape
    replace kk := kk.keep k9
    replace hQ := hQ.keep k9
    replace hN := hN.keep k9
    replace hD := hD.keep k9
    replace c1 := c1.keep k9
    replace c2 := c2.keep k9
    replace d0 := d0.keep k9
    replace d1 := d1.keep k9
    replace d2 := d2.keep k9
    replace d3 := d3.keep k9
    replace d4 := d4.keep k9
    replace d5 := d5.keep k9
    clear g0 g1 g2 g3 e0 e1 e2 e3 e4 e5 j0 j1 j2 j3 j4 j5
    have g0 := c1.c 0 _ rfl
    have g1 := c1.c 1 _ rfl
    have g2 := c2.c 0 _ rfl
    have g3 := c2.c 1 _ rfl
    obtain ⟨f4, hf4⟩ : ∃ f, ecoV ⟨m2, s2⟩ gx (S : Int) ds dw = f := ⟨_, rfl⟩
    have l5 := HF9.out.2.2.2.2 gx hga
    rw [hf4] at l5
    have HF4 := Lib.hid (And.intro hf4 l5)
    clear hf4 l5 k9
    go_wp2_with fail
    refine (implExpectedCost_any No No _ _ _ ⟨m2, s2⟩ gx (S : Int) ds dw u1 hQ hgx hD).mono ?_
    rintro e u2 ⟨_, _, rfl, rfl, rfl, k9⟩
    rw [HF4.out.1, HF4.out.2.1.ok]
    have ka := (Chg.refl No u2).alloc (.cells #[.int .i64 f4.num, .int .i64 f4.den] 38)
    have d6 := BoxN.new u2 #[.int .i64 f4.num, .int .i64 f4.den] 38
    replace kk := kk.keep k9
    replace hQ := hQ.keep k9
    replace hN := hN.keep k9
    replace hD := hD.keep k9
    replace c1 := c1.keep k9
    replace c2 := c2.keep k9
    replace d0 := d0.keep k9
    replace d1 := d1.keep k9
    replace d2 := d2.keep k9
    replace d3 := d3.keep k9
    replace d4 := d4.keep k9
    replace d5 := d5.keep k9
    replace kk := kk.keep ka
    replace hQ := hQ.keep ka
    replace hN := hN.keep ka
    replace hD := hD.keep ka
    replace c1 := c1.keep ka
    replace c2 := c2.keep ka
    replace d0 := d0.keep ka
    replace d1 := d1.keep ka
    replace d2 := d2.keep ka
    replace d3 := d3.keep ka
    replace d4 := d4.keep ka
    replace d5 := d5.keep ka
    obtain ⟨D6, hD6⟩ : ∃ X, u2.heap.size = X := ⟨_, rfl⟩
    rw [hD6] at d6
    have p00 := d0.c 0 _ rfl
    have p01 := d0.c 1 _ rfl
    have p20 := d2.c 0 _ rfl
    have p21 := d2.c 1 _ rfl
    have p40 := d4.c 0 _ rfl
    have p41 := d4.c 1 _ rfl
    have p60 := d6.c 0 _ rfl
    have p61 := d6.c 1 _ rfl
    clear g0 g1 g2 g3 k9 ka
    go_wp2_with fail
    clear hD6
    have HV1 := Lib.hid (fun W => vAtMost_any f2.num f2.den f3.num f3.den W ⟨HF9.out.2.1.n0, HF9.out.2.1.n1⟩ (by have h1 := HF9.out.2.1.d0; have h2 := HF9.out.2.1.d1; omega) ⟨HF9.out.2.2.1.n0, HF9.out.2.2.1.n1⟩ (by have := HF9.out.2.2.1.d0; have := HF9.out.2.2.1.d1; omega))
    have HV2 := Lib.hid (fun W => vAtMost_any f3.num f3.den f4.num f4.den W ⟨HF9.out.2.2.1.n0, HF9.out.2.2.1.n1⟩ (by have := HF9.out.2.2.1.d0; have := HF9.out.2.2.1.d1; omega) ⟨HF4.out.2.1.n0, HF4.out.2.1.n1⟩ (by have := HF4.out.2.1.d0; have := HF4.out.2.1.d1; omega))
    have HB1 := Lib.hid (decide_eq_true HF9.out.2.2.2.1)
    have HB2 := Lib.hid (decide_eq_true HF4.out.2.2)
    refine (HV1.out _).mono ?_
    rintro e u3 ⟨_, rfl, rfl, k9⟩
    rw [HB1.out]
    clear p00 p01 p20 p21 p40 p41 p60 p61
    replace kk := kk.keep k9
    replace d0 := d0.keep k9
    replace d2 := d2.keep k9
    replace d4 := d4.keep k9
    replace d6 := d6.keep k9
    have p00 := d0.c 0 _ rfl
    have p01 := d0.c 1 _ rfl
    have p20 := d2.c 0 _ rfl
    have p21 := d2.c 1 _ rfl
    have p40 := d4.c 0 _ rfl
    have p41 := d4.c 1 _ rfl
    have p60 := d6.c 0 _ rfl
    have p61 := d6.c 1 _ rfl
    clear k9
    go_wp2_with fail
    refine (HV2.out _).mono ?_
    rintro e u4 ⟨_, rfl, rfl, k9⟩
    rw [HB2.out]
    clear p00 p01 p20 p21 p40 p41 p60 p61
    replace kk := kk.keep k9
    replace d0 := d0.keep k9
    replace d2 := d2.keep k9
    replace d4 := d4.keep k9
    replace d6 := d6.keep k9
    have p00 := d0.c 0 _ rfl
    have p01 := d0.c 1 _ rfl
    have p20 := d2.c 0 _ rfl
    have p21 := d2.c 1 _ rfl
    have p40 := d4.c 0 _ rfl
    have p41 := d4.c 1 _ rfl
    have p60 := d6.c 0 _ rfl
    have p61 := d6.c 1 _ rfl
    clear k9
    cases hfo : f1.ok
    · go_wp2_with fail
      go_ret
      exact ⟨rfl, kk⟩
    have hal : AlgP ⟨m2, s2⟩ nx := by
      cases hx : bP (AlgP ⟨m2, s2⟩ nx)
      · have e := HFV.out.1
        unfold ecoV at e
        rw [hx, Bool.and_false] at e
        rw [← e] at hfo
        cases hfo
      · exact bP_iff.1 hx
    have l6 := HF9.out.2.2.2.2 nx hal
    rw [HFV.out.1] at l6
    have HV3 := Lib.hid (fun W => vAtMost_any f3.num f3.den f1.num f1.den W ⟨HF9.out.2.2.1.n0, HF9.out.2.2.1.n1⟩ (by have := HF9.out.2.2.1.d0; have := HF9.out.2.2.1.d1; omega) ⟨l6.1.n0, l6.1.n1⟩ (by have := l6.1.d0; have := l6.1.d1; omega))
    have HB3 := Lib.hid (decide_eq_true l6.2)
    clear l6 hal
    go_wp2_with fail
    refine (HV3.out _).mono ?_
    rintro e u5 ⟨_, rfl, rfl, k9⟩
    rw [HB3.out]
    replace kk := kk.keep k9
    clear p00 p01 p20 p21 p40 p41 p60 p61
    clear k9
    go_wp2_with fail
    go_ret
    exact ⟨rfl, kk⟩
end Go.Proofs.YtndhijckbponkaaGreat
