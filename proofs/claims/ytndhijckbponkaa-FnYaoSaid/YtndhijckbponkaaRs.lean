import Derived.Test.YtndhijckbponkaaPkX10
import Derived.Test.YtndhijckbponkaaTy
import Derived.ChangeKeysEq
/- the law FnYao -/
namespace Go.Proofs.Ytndhijckbponkaa
open Go.RowKit

theorem RCh.rowsA {A : Nat → Prop} {w : World} {wv qv : Value} {qs : List (List Int)} {ws : List Int} (h : RCh A w (.agg #[wv, qv]) qs ws) : RI A w wv ws ∧ RII A w qv qs := by
  obtain ⟨a, c, e, h1, h2⟩ := h
  simp only [Value.agg.injEq, Array.mk.injEq, List.cons.injEq, and_true] at e
  obtain ⟨rfl, rfl⟩ := e
  exact ⟨h1, h2⟩
set_option maxRecDepth 100000 in
set_option maxHeartbeats 4000000 in
theorem law_FnYao (v : Value) (n : Nat) (w : World) (h : Code w v n) :
    Calls Try.prog 7 #[v] w fun e w' => e = .returned (.bool true) ∧ Chg No w w' := by
  obtain ⟨ca0, cc0, rfl⟩ := h.shape
  go_enter Try.func7, Try.ntmps7
  go_wp2_with fail
  refine (vBig_any _ n w h).mono ?_
  rintro e w1 ⟨rfl, rfl⟩
  by_cases hbig : (65536 : Int) < (n : Int)
  · rw [decide_eq_true hbig]
    go_wp2_with fail
    go_ret
    exact ⟨rfl, Chg.refl _ _⟩
  · rw [decide_eq_false hbig]
    go_wp2_with fail
    refine (DrawIsChances_any _ n w1 h (by omega)).mono ?_
    rintro e w2 ⟨pv, cv, P, qs, cw, rfl, hP, hC, k2⟩
    obtain ⟨m, s⟩ := P
    obtain ⟨mv, sv', rfl, hm, hs⟩ := id hP
    dsimp only at hm hs
    obtain ⟨ma, mc, rfl, _⟩ := hm.view
    obtain ⟨sa, sc, rfl, _⟩ := hs.view
    obtain ⟨wv, qv, rfl, hw, hq⟩ := id hC
    obtain ⟨wa, wc, rfl, _⟩ := id hw
    obtain ⟨qa, qc, rfl⟩ := hq.shape
    clear hm hs hw hq
    go_wp2_with fail
    refine bx2 (R := fun W => Calls _ _ _ W _) (fun W0 k0 b3 b4 => ?_)
    replace hP := hP.keep k0
    replace hC := hC.keep k0
    have kk := k2.keep k0
    obtain ⟨X3, hX3⟩ : ∃ X, w2.heap.size = X := ⟨_, rfl⟩
    rw [hX3] at b3 b4 ⊢
    clear k0 hX3 k2
    refine (DrawIsMixture_any _ n W0 (h.keep kk) (by omega)).mono ?_
    rintro e w3 ⟨pv2, xv, P2, ns, xs, rfl, hP2, hX, k3⟩
    obtain ⟨m2, s2⟩ := P2
    obtain ⟨mv2, sv2, rfl, hm2, hs2⟩ := id hP2
    dsimp only at hm2 hs2
    obtain ⟨ma2, mc2, rfl, _⟩ := hm2.view
    obtain ⟨sa2, sc2, rfl, _⟩ := hs2.view
    obtain ⟨xwv, nv, rfl, hxw, hxn⟩ := id hX
    obtain ⟨ya, yc, rfl, _⟩ := id hxw
    obtain ⟨na, nc, rfl⟩ := hxn.shape
    clear hm2 hs2 hxw hxn hP2
    replace hP := hP.keep k3
    replace hC := hC.keep k3
    replace kk := kk.keep k3
    replace b3 := b3.keep k3
    replace b4 := b4.keep k3
    clear k3
    have ka := ((Chg.refl No w3).alloc (.cells #[.slice ma2 m2.length mc2, .slice sa2 s2.length sc2] 32))
    have kb := ((Chg.refl No (w3.alloc (.cells #[.slice ma2 m2.length mc2, .slice sa2 s2.length sc2] 32))).alloc (.cells #[.slice ya xs.length yc, .slice na ns.length nc] 59))
    have g0 := ((b3.keep ka).keep kb).c 0 _ rfl
    have g1 := ((b3.keep ka).keep kb).c 1 _ rfl
    have g2 := ((b4.keep ka).keep kb).c 0 _ rfl
    have g3 := ((b4.keep ka).keep kb).c 1 _ rfl
    go_wp2_with fail
    clear g0 g1 g2 g3 ka kb
    refine bx2 (R := fun W => Calls _ _ _ W _) (fun W4 k4 _ b6 => ?_)
    replace hP := hP.keep k4
    replace hC := hC.keep k4
    replace hX := hX.keep k4
    replace kk := kk.keep k4
    replace b3 := b3.keep k4
    replace b4 := b4.keep k4
    obtain ⟨X6, hX6⟩ : ∃ X, w3.heap.size + 1 = X := ⟨_, rfl⟩
    rw [hX6] at b6 ⊢
    clear k4 hX6
    obtain ⟨ch, hch⟩ : ∃ ch, chaB ⟨m, s⟩ qs cw = ch := ⟨_, rfl⟩
    obtain ⟨mx, hmx⟩ : ∃ mx, mixB ⟨m, s⟩ ns xs = mx := ⟨_, rfl⟩
    obtain ⟨gp, hgp⟩ : ∃ gp, bP (PrP ⟨m, s⟩) = gp := ⟨_, rfl⟩
    have HV := Lib.hid (And.intro hch (And.intro hmx hgp))
    clear hch hmx hgp
    refine (implIsChances_any No _ _ ⟨m, s⟩ qs cw W4 hP hC).mono ?_
    rintro e w5 ⟨_, _, rfl, rfl, rfl, k5⟩
    rw [HV.out.1, HV.out.2.2]
    replace hP := hP.keep k5
    replace hC := hC.keep k5
    replace hX := hX.keep k5
    replace kk := kk.keep k5
    replace b3 := b3.keep k5
    replace b4 := b4.keep k5
    replace b6 := b6.keep k5
    have g0 := b3.c 0 _ rfl
    have g1 := b3.c 1 _ rfl
    have g2 := b4.c 0 _ rfl
    have g3 := b4.c 1 _ rfl
    have g4 := b6.c 0 _ rfl
    have g5 := b6.c 1 _ rfl
    clear k5
    go_wp2_with fail
    refine (implIsMixture_any No No _ _ ⟨m, s⟩ ns xs w5 hP hX).mono ?_
    rintro e w6 ⟨_, _, rfl, rfl, rfl, k6⟩
    rw [HV.out.2.1, HV.out.2.2]
    clear g0 g1 g2 g3 g4 g5
    replace hP := hP.keep k6
    replace hC := hC.keep k6
    replace hX := hX.keep k6
    replace kk := kk.keep k6
    replace b3 := b3.keep k6
    replace b4 := b4.keep k6
    replace b6 := b6.keep k6
    have g0 := b3.c 0 _ rfl
    have g1 := b3.c 1 _ rfl
    have g2 := b4.c 0 _ rfl
    have g3 := b4.c 1 _ rfl
    have g4 := b6.c 0 _ rfl
    have g5 := b6.c 1 _ rfl
    clear k6
    go_wp2_with fail
    refine (specIsChances_any No _ _ ⟨m, s⟩ qs cw w6 hP hC).mono ?_
    rintro e w7 ⟨_, _, rfl, rfl, rfl, k7⟩
    rw [HV.out.1, HV.out.2.2]
    clear g0 g1 g2 g3 g4 g5
    replace hP := hP.keep k7
    replace hC := hC.keep k7
    replace hX := hX.keep k7
    replace kk := kk.keep k7
    replace b3 := b3.keep k7
    replace b4 := b4.keep k7
    replace b6 := b6.keep k7
    have g0 := b3.c 0 _ rfl
    have g1 := b3.c 1 _ rfl
    have g2 := b4.c 0 _ rfl
    have g3 := b4.c 1 _ rfl
    have g4 := b6.c 0 _ rfl
    have g5 := b6.c 1 _ rfl
    clear k7
    go_wp2_with fail
    refine (specIsMixture_any No No _ _ ⟨m, s⟩ ns xs w7 hP hX).mono ?_
    rintro e w8 ⟨_, _, rfl, rfl, rfl, k8⟩
    rw [HV.out.2.1, HV.out.2.2]
    clear g0 g1 g2 g3 g4 g5
    replace hP := hP.keep k8
    replace hC := hC.keep k8
    replace hX := hX.keep k8
    replace kk := kk.keep k8
    replace b3 := b3.keep k8
    replace b4 := b4.keep k8
    replace b6 := b6.keep k8
    have g0 := b3.c 0 _ rfl
    have g1 := b3.c 1 _ rfl
    have g2 := b4.c 0 _ rfl
    have g3 := b4.c 1 _ rfl
    have g4 := b6.c 0 _ rfl
    have g5 := b6.c 1 _ rfl
    clear k8
    have hbb : (ch != ch) = false := bne_self_eq_false _
    have hbm : (mx != mx) = false := bne_self_eq_false _
    obtain ⟨l, hll, hcl⟩ := (h.keep kk).list
    have a9 := atC_in hcl 9
    have v9 : Calls Try.prog 33 #[.slice ca0 n cc0, .int .i64 9] w8 fun e w'' => e = .returned (.int .i64 (atC l 9)) ∧ w8 = w'' := vAt_any _ l 9 w8 hcl (by omega) (by omega)
    generalize atC l 9 = x9 at a9 v9
    have V9 := Lib.hid v9
    clear v9 hll hcl
    go_wp2_with fail
    refine V9.out.mono ?_
    rintro e w9 ⟨rfl, rfl⟩
    clear hbb hbm V9
    obtain ⟨st, hst⟩ : ∃ st : Nat, x9 % 4 = (st : Int) := ⟨(x9 % 4).toNat, by omega⟩
    have hst3 : st ≤ 3 := by omega
    have htm : x9.tmod 4 = (st : Int) := by rw [Int.tmod_eq_emod_of_nonneg a9.1]; exact hst
    have hws : IntKind.i64.wrap (st : Int) = (st : Int) := IntWalk.i64_in _ (by omega)
    cases ch
    · go_wp2_with fail
      go_ret
      exact ⟨rfl, kk⟩
    · cases mx
      · go_wp2_with fail
        go_ret
        exact ⟨rfl, kk⟩
      · have hpc : bP (PrP ⟨m, s⟩) = true ∧ bP (ChP s.length 12 6 qs cw) = true := by
          have := HV.out.1
          unfold chaB at this
          exact Bool.and_eq_true_iff.1 this
        have hpp := bP_iff.1 hpc.1
        have hcp := bP_iff.1 hpc.2
        have hmp : MixP ⟨m, s⟩ ns xs := by
          have := HV.out.2.1
          unfold mixB at this
          exact bP_iff.1 (Bool.and_eq_true_iff.1 this).2
        have hst0 : (0 : Int) ≤ (st : Int) := Int.natCast_nonneg _
        by_cases hsm : st < m.length
        · have hsm1 : ¬ (m.length : Int) ≤ (st : Int) := by omega
          have hq0 : 0 < qs.length := by have := hcp.1.1; omega
          have hq1 : (0 : Int) < (qs.length : Int) := by omega
          have f : BrF ⟨m, s⟩ qs cw st := ⟨hpp, hcp, hsm, by
            unfold drawB
            rw [HV.out.1, Bool.true_and]
            exact inB_iff.2 (by show (0 : Int) ≤ (st : Int) ∧ (st : Int) ≤ (m.length : Int) - 1; omega)⟩
          have HF := Lib.hid (And.intro f hmp)
          obtain ⟨qb, qo, xa, xc, rfl, hqb, hcq, hrw⟩ := (hC.rowsA.2).row hq0
          have hgL := f.gd
          obtain ⟨L, hL⟩ : ∃ L, (qs.getD 0 []).length = L := ⟨_, rfl⟩
          rw [hL, Nat.add_zero] at hcq
          have HL := Lib.hid hL
          have hL6 : L ≤ 6 := by rw [← hL]; exact hgL.l6
          clear hpc hcp f hL hrw hgL
          by_cases hL4 : 4 < L
          · have hL5 : (4 : Int) < (L : Int) := by omega
            go_wp2_with fail
            go_ret
            exact ⟨rfl, kk⟩
          · have hL5 : ¬ (4 : Int) < (L : Int) := by omega
            go_wp2_with fail
            refine wp_region_K (S := fun W => (W.cell? ⟨X3, 0, none⟩ = some (.slice ma m.length mc) ∧ W.cell? ⟨X3, 1, none⟩ = some (.slice sa s.length sc)) ∧ (W.cell? ⟨X6, 0, none⟩ = some (.slice ya xs.length yc) ∧ W.cell? ⟨X6, 1, none⟩ = some (.slice na ns.length nc)) ∧ W.cell? ⟨X3 + 1, 1, none⟩ = some (.slice (some ⟨qb, qo, none⟩) qs.length qc) ∧ W.cell? ⟨qb, qo, none⟩ = some (.slice xa L xc)) (k := 14) (by kernel_rfl) ?_
            have HS : Hid (∀ W, Chg No w8 W → (W.cell? ⟨X3, 0, none⟩ = some (.slice ma m.length mc) ∧ W.cell? ⟨X3, 1, none⟩ = some (.slice sa s.length sc)) ∧ (W.cell? ⟨X6, 0, none⟩ = some (.slice ya xs.length yc) ∧ W.cell? ⟨X6, 1, none⟩ = some (.slice na ns.length nc)) ∧ W.cell? ⟨X3 + 1, 1, none⟩ = some (.slice (some ⟨qb, qo, none⟩) qs.length qc) ∧ W.cell? ⟨qb, qo, none⟩ = some (.slice xa L xc)) :=
              Lib.hid (fun W k => ⟨⟨(b3.keep k).c 0 _ rfl, (b3.keep k).c 1 _ rfl⟩, ⟨(b6.keep k).c 0 _ rfl, (b6.keep k).c 1 _ rfl⟩, (b4.keep k).c 1 _ rfl, (k.cellD qb qo hqb (fun e => e)).trans hcq⟩)
            have HWOM : Hid (∀ W, Chg No w8 W → Calls Try.prog 34 #[.agg #[.slice ma m.length mc, .slice sa s.length sc], .agg #[.slice ya xs.length yc, .slice na ns.length nc], .int .i64 (st : Int), .int .i64 (L : Int)] W fun e w' => ∃ (bv : Value) (mo : Int), e = .returned (.tuple #[bv, .agg #[.int .i64 (mkFr mo (sumW xs)).num, .int .i64 (mkFr mo (sumW xs)).den], .bool (mkFr mo (sumW xs)).ok]) ∧ 0 ≤ mo ∧ mo ≤ 257040 ∧ (∀ t, t < s.length ^ L → mixV ⟨m, s⟩ ns xs st (digs s.length L t) ≤ mo) ∧ Chg No W w') :=
              Lib.hid (fun W k => WorstOfMixture_any No No _ _ ⟨m, s⟩ ns xs st L W hpp hmp hsm (by omega) (hP.keep k) (hX.keep k))
            have kq : Chg No w8 (World.drew w8) := drewN0 _
            clear hpp hmp hX b6 hcq hqb g0 g1 g2 g3 g4 g5
            generalize World.drew w8 = WQ at kq ⊢
            have hS := HS.out WQ kq
            refine wpAnyK_takeT 0 (.agg #[.slice ma m.length mc, .slice sa s.length sc]) rfl (by kernel_rfl) (fun _ _ _ h => h) hS rfl (by intro w hSw; go_simp) ?_
            simp only [List.getElem_toArray, List.getElem_cons_zero, Act.put, List.setIfInBounds_toArray, List.set_cons_zero, List.set_cons_succ]
            refine wpAnyK_takeT 1 (.agg #[.slice ya xs.length yc, .slice na ns.length nc]) rfl (by kernel_rfl) (fun _ _ _ h => h) hS rfl (by intro w hSw; go_simp) ?_
            simp only [List.getElem_toArray, List.getElem_cons_succ, List.getElem_cons_zero, Act.put, List.setIfInBounds_toArray, List.set_cons_zero, List.set_cons_succ]
            refine wpAnyK_take0 2 (.int .i64 (st : Int)) rfl (by kernel_rfl) (fun _ _ _ h => h) hS rfl (by intro w; go_simp) ?_
            simp only [List.getElem_toArray, List.getElem_cons_succ, List.getElem_cons_zero, Act.put, List.setIfInBounds_toArray, List.set_cons_zero, List.set_cons_succ]
            refine wpAnyK_take0 3 (.pointer (some ⟨X3 + 1, 1, none⟩)) rfl (by kernel_rfl) (fun _ _ _ h => h) hS rfl (by intro w; go_simp) ?_
            simp only [List.getElem_toArray, List.getElem_cons_succ, List.getElem_cons_zero, Act.put, List.setIfInBounds_toArray, List.set_cons_zero, List.set_cons_succ]
            refine wpAnyK_take 4 (.slice (some ⟨qb, qo, none⟩) qs.length qc) rfl (by kernel_rfl) (fun _ _ _ h => h) hS rfl (by intro w hSw; go_simp) ?_
            simp only [List.getElem_toArray, List.getElem_cons_succ, List.getElem_cons_zero, Act.put, List.setIfInBounds_toArray, List.set_cons_zero, List.set_cons_succ]
            refine wpAnyK_take0 5 (.pointer (some ⟨qb, qo, none⟩)) rfl (by kernel_rfl) (fun _ _ _ h => h) hS rfl (by intro w; go_simp) ?_
            simp only [List.getElem_toArray, List.getElem_cons_succ, List.getElem_cons_zero, Act.put, List.setIfInBounds_toArray, List.set_cons_zero, List.set_cons_succ]
            refine wpAnyK_take 6 (.slice xa L xc) rfl (by kernel_rfl) (fun _ _ _ h => h) hS rfl (by intro w hSw; go_simp) ?_
            simp only [List.getElem_toArray, List.getElem_cons_succ, List.getElem_cons_zero, Act.put, List.setIfInBounds_toArray, List.set_cons_zero, List.set_cons_succ]
            refine wpAnyK_take0 7 (.int .i64 (L : Int)) rfl (by kernel_rfl) (fun _ _ _ h => h) hS rfl (by intro w; go_simp) ?_
            simp only [List.getElem_toArray, List.getElem_cons_succ, List.getElem_cons_zero, Act.put, List.setIfInBounds_toArray, List.set_cons_zero, List.set_cons_succ]
            clear hS
            refine wpAnyK_2 8 13 (by kernel_rfl) (wpOpK' rfl rfl ?_) (wpOpK' rfl rfl ?_)
            · skip
              intro K0 hK0
              refine ocallE (f := 34) (args := #[.agg #[.slice ma m.length mc, .slice sa s.length sc], .agg #[.slice ya xs.length yc, .slice na ns.length nc], .int .i64 (st : Int), .int .i64 (L : Int)]) (φ := fun v W' => (∃ (bv : Value) (mo : Int), v = .tuple #[bv, .agg #[.int .i64 (mkFr mo (sumW xs)).num, .int .i64 (mkFr mo (sumW xs)).den], .bool (mkFr mo (sumW xs)).ok] ∧ 0 ≤ mo ∧ mo ≤ 257040 ∧ (∀ t, t < s.length ^ L → mixV ⟨m, s⟩ ns xs st (digs s.length L t) ≤ mo)) ∧ Chg No WQ W') (by go_simp) ((HWOM.out WQ kq).mono (fun e W' ⟨bv, mo, h1, h2, h3, h4, h5⟩ => ⟨_, h1, ⟨bv, mo, rfl, h2, h3, h4⟩, h5⟩)) (fun v2 W2 h2 => hK0.out _ _ (HS.out W2 (kq.keep h2.2)) ?_)
              obtain ⟨⟨bv, mo, rfl, hm0, hm1, hmo⟩, k2⟩ := h2
              replace kq := kq.keep k2
              try replace bz := bz.keep k2
              have yl := yao_law HF.out.1 HF.out.2 hm0 hm1 (by rw [HL.out]; exact hmo)
              obtain ⟨mr, hmr⟩ : ∃ mr, mkFr mo (sumW xs) = mr := ⟨_, rfl⟩
              rw [hmr] at yl
              rw [hmr]
              obtain ⟨y1, y2, y3, y4, y5, y6⟩ := yl
              rw [y1]
              clear hK0 K0 k2 hm0 hm1 hmo hmr y1
              simp only [List.getElem_toArray, List.getElem_cons_succ, List.getElem_cons_zero, Act.put, List.setIfInBounds_toArray, List.set_cons_zero, List.set_cons_succ]
              generalize W2 = WQ at *
              have hS := HS.out WQ kq
              refine wpAnyK_take0 9 (.tuple #[bv, .agg #[.int .i64 mr.num, .int .i64 mr.den], .bool true]) rfl (by kernel_rfl) (fun _ _ _ h => h) hS rfl (by intro w; go_simp) ?_
              simp only [List.getElem_toArray, List.getElem_cons_succ, List.getElem_cons_zero, Act.put, List.setIfInBounds_toArray, List.set_cons_zero, List.set_cons_succ]
              refine wpAnyK_take0 10 (bv) rfl (by kernel_rfl) (fun _ _ _ h => h) hS rfl (by intro w; go_simp) ?_
              simp only [List.getElem_toArray, List.getElem_cons_succ, List.getElem_cons_zero, Act.put, List.setIfInBounds_toArray, List.set_cons_zero, List.set_cons_succ]
              refine wpAnyK_take0 11 (.agg #[.int .i64 mr.num, .int .i64 mr.den]) rfl (by kernel_rfl) (fun _ _ _ h => h) hS rfl (by intro w; go_simp) ?_
              simp only [List.getElem_toArray, List.getElem_cons_succ, List.getElem_cons_zero, Act.put, List.setIfInBounds_toArray, List.set_cons_zero, List.set_cons_succ]
              refine wpAnyK_take0 12 (.bool true) rfl (by kernel_rfl) (fun _ _ _ h => h) hS rfl (by intro w; go_simp) ?_
              simp only [List.getElem_toArray, List.getElem_cons_succ, List.getElem_cons_zero, Act.put, List.setIfInBounds_toArray, List.set_cons_zero, List.set_cons_succ]
              clear hS
              refine wpAnyK_1 13 (by kernel_rfl) (wpOpK' rfl rfl ?_)
              intro K0 hK0
              have ka := (Chg.refl No WQ).alloc (.cells #[.int .i64 0, .int .i64 0] 46)
              have bz := BoxN.new WQ #[.int .i64 0, .int .i64 0] 46
              have hzl := kq.size
              unfold Oper.wp execOp
              go_simp
              refine hK0.out _ _ (HS.out _ (kq.keep ka)) ?_
              replace kq := kq.keep ka
              clear hK0 K0 ka
              simp only [List.setIfInBounds_toArray]
              obtain ⟨Z, hZ⟩ : ∃ Z, WQ.heap.size = Z := ⟨_, rfl⟩
              rw [hZ] at bz hzl ⊢
              clear hZ
              generalize WQ.alloc (.cells #[.int .i64 0, .int .i64 0] 46) = WQ at *
              refine wpAnyK_tail 14 rfl (by kernel_rfl) ?_
              simp only [List.drop_succ_cons, List.drop_zero]
              have e0 := bz.c 0 _ rfl
              have e1 := bz.c 1 _ rfl
              have f0 := bz.fr 0
              have f1 := bz.fr 1
              have bz8 := (bz.set (i := 0) (by simp) (.int .i64 mr.num)).set (i := 1) (by simp) (.int .i64 mr.den)
              have kq8 := (kq.setCell (p := ⟨Z, 0, none⟩) (fun e => by simp at e; omega) (.int .i64 mr.num)).setCell (p := ⟨Z, 1, none⟩) (fun e => by simp at e; omega) (.int .i64 mr.den)
              have g0 := (b3.keep kq).c 0 _ rfl
              have g1 := (b3.keep kq).c 1 _ rfl
              have g2 := (b4.keep kq).c 0 _ rfl
              have g3 := (b4.keep kq).c 1 _ rfl
              have hn : (¬ X3 = Z ∧ ¬ Z = X3) ∧ ¬ X3 + 1 = Z ∧ ¬ Z = X3 + 1 := by have := b4.lt; omega
              obtain ⟨⟨n1, n2⟩, n3, n4⟩ := hn
              clear bz kq HS HWOM
              go_wp2_with fail
              clear g0 g1 g2 g3 n1 n2 n3 n4 e0 e1 f0 f1
              generalize (WQ.setCell ⟨Z, 0, none⟩ (.int .i64 mr.num)).setCell ⟨Z, 1, none⟩ (.int .i64 mr.den) = W8 at bz8 kq8 ⊢
              have hRL := reply_law HF.out.1
              refine (implBestExpected_any No _ _ ⟨m, s⟩ (st : Int) qs cw W8 (hP.keep kq8) (hC.keep kq8)).mono ?_
              rintro e wB ⟨_, _, rfl, rfl, rfl, kB⟩
              obtain ⟨fr, hfr⟩ : ∃ fr, bexV ⟨m, s⟩ (st : Int) qs cw = fr := ⟨_, rfl⟩
              rw [hfr] at hRL y6 ⊢
              obtain ⟨r1, _, r3, r4, r5, r6, _, _⟩ := hRL
              rw [r1]
              have bzB := bz8.keep kB
              have ka := (Chg.refl No wB).alloc (.cells #[.int .i64 fr.num, .int .i64 fr.den] 46)
              have z0 := (bzB.keep ka).c 0 _ rfl
              have z1 := (bzB.keep ka).c 1 _ rfl
              have kE := (kq8.keep kB).keep ka
              have HY : Hid (decide (fr.num * mr.den ≤ mr.num * fr.den) = true) := Lib.hid (decide_eq_true y6)
              have HVA := Lib.hid (fun W => vAtMost_any fr.num fr.den mr.num mr.den W (by omega) (by omega) (by omega) (by omega))
              clear hfr r1 r3 r4 r5 r6 y2 y3 y4 y5 y6 bz8 kq8 kB bzB
              go_wp2_with fail
              refine (HVA.out _).mono ?_
              rintro e wC ⟨_, rfl, rfl, kC⟩
              rw [HY.out]
              go_wp2_with fail
              go_ret
              exact ⟨rfl, (kk.keep kE).keep kC⟩
            · skip
              intro K0 hK0
              have ka := (Chg.refl No WQ).alloc (.cells #[.int .i64 0, .int .i64 0] 46)
              have bz := BoxN.new WQ #[.int .i64 0, .int .i64 0] 46
              have hzl := kq.size
              unfold Oper.wp execOp
              go_simp
              refine hK0.out _ _ (HS.out _ (kq.keep ka)) ?_
              replace kq := kq.keep ka
              clear hK0 K0 ka
              simp only [List.setIfInBounds_toArray]
              obtain ⟨Z, hZ⟩ : ∃ Z, WQ.heap.size = Z := ⟨_, rfl⟩
              rw [hZ] at bz hzl ⊢
              clear hZ
              generalize WQ.alloc (.cells #[.int .i64 0, .int .i64 0] 46) = WQ at *
              refine wpAnyK_1 8 (by kernel_rfl) (wpOpK' rfl rfl ?_)
              intro K0 hK0
              refine ocallE (f := 34) (args := #[.agg #[.slice ma m.length mc, .slice sa s.length sc], .agg #[.slice ya xs.length yc, .slice na ns.length nc], .int .i64 (st : Int), .int .i64 (L : Int)]) (φ := fun v W' => (∃ (bv : Value) (mo : Int), v = .tuple #[bv, .agg #[.int .i64 (mkFr mo (sumW xs)).num, .int .i64 (mkFr mo (sumW xs)).den], .bool (mkFr mo (sumW xs)).ok] ∧ 0 ≤ mo ∧ mo ≤ 257040 ∧ (∀ t, t < s.length ^ L → mixV ⟨m, s⟩ ns xs st (digs s.length L t) ≤ mo)) ∧ Chg No WQ W') (by go_simp) ((HWOM.out WQ kq).mono (fun e W' ⟨bv, mo, h1, h2, h3, h4, h5⟩ => ⟨_, h1, ⟨bv, mo, rfl, h2, h3, h4⟩, h5⟩)) (fun v2 W2 h2 => hK0.out _ _ (HS.out W2 (kq.keep h2.2)) ?_)
              obtain ⟨⟨bv, mo, rfl, hm0, hm1, hmo⟩, k2⟩ := h2
              replace kq := kq.keep k2
              try replace bz := bz.keep k2
              have yl := yao_law HF.out.1 HF.out.2 hm0 hm1 (by rw [HL.out]; exact hmo)
              obtain ⟨mr, hmr⟩ : ∃ mr, mkFr mo (sumW xs) = mr := ⟨_, rfl⟩
              rw [hmr] at yl
              rw [hmr]
              obtain ⟨y1, y2, y3, y4, y5, y6⟩ := yl
              rw [y1]
              clear hK0 K0 k2 hm0 hm1 hmo hmr y1
              simp only [List.getElem_toArray, List.getElem_cons_succ, List.getElem_cons_zero, Act.put, List.setIfInBounds_toArray, List.set_cons_zero, List.set_cons_succ]
              generalize W2 = WQ at *
              have hS := HS.out WQ kq
              refine wpAnyK_take0 9 (.tuple #[bv, .agg #[.int .i64 mr.num, .int .i64 mr.den], .bool true]) rfl (by kernel_rfl) (fun _ _ _ h => h) hS rfl (by intro w; go_simp) ?_
              simp only [List.getElem_toArray, List.getElem_cons_succ, List.getElem_cons_zero, Act.put, List.setIfInBounds_toArray, List.set_cons_zero, List.set_cons_succ]
              refine wpAnyK_take0 10 (bv) rfl (by kernel_rfl) (fun _ _ _ h => h) hS rfl (by intro w; go_simp) ?_
              simp only [List.getElem_toArray, List.getElem_cons_succ, List.getElem_cons_zero, Act.put, List.setIfInBounds_toArray, List.set_cons_zero, List.set_cons_succ]
              refine wpAnyK_take0 11 (.agg #[.int .i64 mr.num, .int .i64 mr.den]) rfl (by kernel_rfl) (fun _ _ _ h => h) hS rfl (by intro w; go_simp) ?_
              simp only [List.getElem_toArray, List.getElem_cons_succ, List.getElem_cons_zero, Act.put, List.setIfInBounds_toArray, List.set_cons_zero, List.set_cons_succ]
              refine wpAnyK_take0 12 (.bool true) rfl (by kernel_rfl) (fun _ _ _ h => h) hS rfl (by intro w; go_simp) ?_
              simp only [List.getElem_toArray, List.getElem_cons_succ, List.getElem_cons_zero, Act.put, List.setIfInBounds_toArray, List.set_cons_zero, List.set_cons_succ]
              clear hS
              refine wpAnyK_tail 14 rfl (by kernel_rfl) ?_
              simp only [List.drop_succ_cons, List.drop_zero]
              have e0 := bz.c 0 _ rfl
              have e1 := bz.c 1 _ rfl
              have f0 := bz.fr 0
              have f1 := bz.fr 1
              have bz8 := (bz.set (i := 0) (by simp) (.int .i64 mr.num)).set (i := 1) (by simp) (.int .i64 mr.den)
              have kq8 := (kq.setCell (p := ⟨Z, 0, none⟩) (fun e => by simp at e; omega) (.int .i64 mr.num)).setCell (p := ⟨Z, 1, none⟩) (fun e => by simp at e; omega) (.int .i64 mr.den)
              have g0 := (b3.keep kq).c 0 _ rfl
              have g1 := (b3.keep kq).c 1 _ rfl
              have g2 := (b4.keep kq).c 0 _ rfl
              have g3 := (b4.keep kq).c 1 _ rfl
              have hn : (¬ X3 = Z ∧ ¬ Z = X3) ∧ ¬ X3 + 1 = Z ∧ ¬ Z = X3 + 1 := by have := b4.lt; omega
              obtain ⟨⟨n1, n2⟩, n3, n4⟩ := hn
              clear bz kq HS HWOM
              go_wp2_with fail
              clear g0 g1 g2 g3 n1 n2 n3 n4 e0 e1 f0 f1
              generalize (WQ.setCell ⟨Z, 0, none⟩ (.int .i64 mr.num)).setCell ⟨Z, 1, none⟩ (.int .i64 mr.den) = W8 at bz8 kq8 ⊢
              have hRL := reply_law HF.out.1
              refine (implBestExpected_any No _ _ ⟨m, s⟩ (st : Int) qs cw W8 (hP.keep kq8) (hC.keep kq8)).mono ?_
              rintro e wB ⟨_, _, rfl, rfl, rfl, kB⟩
              obtain ⟨fr, hfr⟩ : ∃ fr, bexV ⟨m, s⟩ (st : Int) qs cw = fr := ⟨_, rfl⟩
              rw [hfr] at hRL y6 ⊢
              obtain ⟨r1, _, r3, r4, r5, r6, _, _⟩ := hRL
              rw [r1]
              have bzB := bz8.keep kB
              have ka := (Chg.refl No wB).alloc (.cells #[.int .i64 fr.num, .int .i64 fr.den] 46)
              have z0 := (bzB.keep ka).c 0 _ rfl
              have z1 := (bzB.keep ka).c 1 _ rfl
              have kE := (kq8.keep kB).keep ka
              have HY : Hid (decide (fr.num * mr.den ≤ mr.num * fr.den) = true) := Lib.hid (decide_eq_true y6)
              have HVA := Lib.hid (fun W => vAtMost_any fr.num fr.den mr.num mr.den W (by omega) (by omega) (by omega) (by omega))
              clear hfr r1 r3 r4 r5 r6 y2 y3 y4 y5 y6 bz8 kq8 kB bzB
              go_wp2_with fail
              refine (HVA.out _).mono ?_
              rintro e wC ⟨_, rfl, rfl, kC⟩
              rw [HY.out]
              go_wp2_with fail
              go_ret
              exact ⟨rfl, (kk.keep kE).keep kC⟩
        · have hsm1 : (m.length : Int) ≤ (st : Int) := by omega
          clear hpc hcp hmp hpp
          go_wp2_with fail
          go_ret
          exact ⟨rfl, kk⟩
end Go.Proofs.Ytndhijckbponkaa
