import Derived.Test.YtegipldajbkjfaaGreatRz
/- FnCacheRuns: the law -/
namespace Go.Proofs.YtegipldajbkjfaaGreat
open Go.RowKit

set_option maxRecDepth 100000 in
set_option maxHeartbeats 8000000 in
theorem law_FnCacheRuns (v : Value) (N : Nat) (w : World) (h : Code w v N) :
    Calls Tryz.prog 4 #[v] w fun e w' => e = .returned (.bool true) ∧ Chg No w w' := by
  obtain ⟨a, cp, rfl⟩ := h.shape
  go_enter Tryz.func4, Tryz.ntmps4
  go_wp2_with fail
  refine (vBig_any _ _ _ h).mono ?_
  rintro e w' ⟨rfl, rfl⟩
  by_cases hbig : (65536 : Int) < (N : Int)
  · go_wp2_with fail
    go_ret
    exact ⟨rfl, Chg.refl No _⟩
  · go_wp2_with fail
    refine (DrawRunCache_any _ _ _ h (by omega)).mono ?_
    rintro e w1 ⟨n, cv, rv, c, l, rfl, rco, ol, hl, k1⟩
    obtain ⟨pa, pn, pc, ma, mn, mc, rfl⟩ := rco.shape
    have rc := rco.readNo
    have rl := ol.readNo
    have bx := Box.new w1 (.int .i64 c.pol) (.int .i64 c.size) (.slice pa pn pc) (.slice ma mn mc) (.int .i64 c.hand) 26
    have k2 := (Chg.refl No w1).alloc (.cells #[.int .i64 c.pol, .int .i64 c.size, .slice pa pn pc, .slice ma mn mc, .int .i64 c.hand] 26)
    replace rc := rc.keep k2
    replace rl := rl.keep k2
    have kk := k1.keep k2
    clear rco ol k1
    go_wp2_with fail
    generalize w1.alloc (.cells #[.int .i64 c.pol, .int .i64 c.size, .slice pa pn pc, .slice ma mn mc, .int .i64 c.hand] 26) = W1 at bx k2 rc rl kk ⊢
    generalize w1.heap.size = X at bx ⊢
    clear k2
    refine (implRunCache_any n _ rv c l W1 rc rl).mono ?_
    rintro e w2 ⟨_, _, _, rfl, rfl, rfl, ry, k2⟩
    obtain ⟨s, hs⟩ : ∃ s, runV n c l = s := ⟨_, rfl⟩
    rw [hs] at ry
    obtain ⟨ya, yn, yc, za, zn, zc, rfl⟩ := ry.shape
    replace ry := ry.readNo
    replace bx := bx.keep k2
    replace rc := rc.keep k2
    replace rl := rl.keep k2
    replace kk := kk.keep k2
    have HS := Lib.hid hs
    clear hs k2
    have b1 := Box.new w2 (.int .i64 s.pol) (.int .i64 s.size) (.slice ya yn yc) (.slice za zn zc) (.int .i64 s.hand) 26
    have k2 := (Chg.refl No w2).alloc (.cells #[.int .i64 s.pol, .int .i64 s.size, .slice ya yn yc, .slice za zn zc, .int .i64 s.hand] 26)
    replace rc := rc.keep k2
    replace rl := rl.keep k2
    replace ry := ry.keep k2
    replace bx := bx.keep k2
    replace kk := kk.keep k2
    obtain ⟨c0, c1, c2, c3, c4, fr⟩ := id bx
    go_wp2_with fail
    clear c0 c1 c2 c3 c4 fr
    generalize w2.alloc (.cells #[.int .i64 s.pol, .int .i64 s.size, .slice ya yn yc, .slice za zn zc, .int .i64 s.hand] 26) = W2 at b1 k2 rc rl ry bx kk ⊢
    generalize w2.heap.size = Y at b1 ⊢
    clear k2
    refine (specRunCache_any n _ rv c l W2 rc rl).mono ?_
    rintro e w3 ⟨_, _, _, rfl, rfl, rfl, rt, k3⟩
    rw [HS.out] at rt
    obtain ⟨ta, tn, tc, ua, un, uc, rfl⟩ := rt.shape
    replace rt := rt.readNo
    replace b1 := b1.keep k3
    replace ry := ry.keep k3
    replace kk := kk.keep k3
    clear k3
    have b2 := Box.new w3 (.int .i64 s.pol) (.int .i64 s.size) (.slice ta tn tc) (.slice ua un uc) (.int .i64 s.hand) 26
    have k3 := (Chg.refl No w3).alloc (.cells #[.int .i64 s.pol, .int .i64 s.size, .slice ta tn tc, .slice ua un uc, .int .i64 s.hand] 26)
    replace ry := ry.keep k3
    replace rt := rt.keep k3
    replace b1 := b1.keep k3
    replace kk := kk.keep k3
    obtain ⟨d0, d1, d2, d3, d4, dr⟩ := id b1
    obtain ⟨e0, e1, e2, e3, e4, er⟩ := id b2
    go_wp2_with fail
    clear d0 d1 d2 d3 d4 dr e0 e1 e2 e3 e4 er
    refine (vCache_same No No _ _ s _ ry rt).mono ?_
    rintro e w4 ⟨_, rfl, rfl, k4⟩
    replace kk := kk.keep k4
    have hcode := h.keep kk
    clear rt ry b1 b2 bx rc rl k3 k4
    go_wp2_with fail
    refine (vCut_any _ _ 1 w4 hcode (by omega) (by omega)).mono ?_
    rintro e w5 ⟨xv, xn, rfl, hcode2, hcn, k5⟩
    replace kk := kk.keep k5
    go_wp2_with fail
    refine (DrawPlaces_any _ _ _ hcode2 hcn).mono ?_
    rintro e w6 ⟨m, p, k, lv, ll, rfl, oll, hll, k6⟩
    have rll := oll.readNo
    replace kk := kk.keep k6
    clear hcode hcode2 oll k5 k6
    obtain ⟨P, hP⟩ : ∃ P, (if askedB m p k ll then places (newC p k) ll else []) = P := ⟨_, rfl⟩
    obtain ⟨G, hG⟩ : ∃ G, (if askedB m p k ll then pagesTo (newC p k) ll ll.length else []) = G := ⟨_, rfl⟩
    obtain ⟨F, hF⟩ : ∃ F, hitV m p k ll = F := ⟨_, rfl⟩
    go_wp2_with fail
    refine (implFaultPlaces_any No m p k lv ll w6 rll).mono ?_
    rw [hP]
    rintro e w7 ⟨av, _, rfl, rfl, oa, k7⟩
    replace rll := rll.keep k7
    replace kk := kk.keep k7
    go_wp2_with fail
    refine (specFaultPlaces_any No m p k lv ll w7 rll (Bd.no _)).mono ?_
    rw [hP]
    rintro e w8 ⟨bv, _, rfl, rfl, ob, k8⟩
    replace rll := rll.keep k8
    replace kk := kk.keep k8
    replace oa := oa.keep k8
    go_wp2_with fail
    refine (implContentsOf_any No m p k lv ll w8 rll).mono ?_
    rw [hG]
    rintro e w9 ⟨gv, _, rfl, rfl, ⟨F1, og⟩, k9⟩
    replace rll := rll.keep k9
    replace kk := kk.keep k9
    replace oa := oa.keep k9
    replace ob := ob.keep k9
    go_wp2_with fail
    refine (specContentsOf_any No m p k lv ll w9 rll).mono ?_
    rw [hG]
    rintro e wa ⟨hv, _, rfl, rfl, ⟨F2, oh⟩, ka⟩
    replace rll := rll.keep ka
    replace kk := kk.keep ka
    replace oa := oa.keep ka
    replace ob := ob.keep ka
    replace og := og.keep ka
    go_wp2_with fail
    refine (implHitShare_any m p k lv ll wa rll).mono ?_
    rw [hF]
    rintro e wb ⟨_, _, rfl, rfl, rfl, kb⟩
    replace rll := rll.keep kb
    replace kk := kk.keep kb
    replace oa := oa.keep kb
    replace ob := ob.keep kb
    replace og := og.keep kb
    replace oh := oh.keep kb
    have f1 := BoxN.new wb #[.int .i64 F.num, .int .i64 F.den] 51
    have kc := (Chg.refl No wb).alloc (.cells #[.int .i64 F.num, .int .i64 F.den] 51)
    go_wp2_with fail
    generalize wb.alloc (.cells #[.int .i64 F.num, .int .i64 F.den] 51) = Wb at f1 kc ⊢
    generalize wb.heap.size = Fb at f1 ⊢
    replace rll := rll.keep kc
    replace kk := kk.keep kc
    replace oa := oa.keep kc
    replace ob := ob.keep kc
    replace og := og.keep kc
    replace oh := oh.keep kc
    refine (specHitShare_any m p k lv ll Wb rll).mono ?_
    rw [hF]
    rintro e wd ⟨_, _, rfl, rfl, rfl, kd⟩
    replace rll := rll.keep kd
    replace kk := kk.keep kd
    replace oa := oa.keep kd
    replace ob := ob.keep kd
    replace og := og.keep kd
    replace oh := oh.keep kd
    replace f1 := f1.keep kd
    have f2 := BoxN.new wd #[.int .i64 F.num, .int .i64 F.den] 51
    have ke := (Chg.refl No wd).alloc (.cells #[.int .i64 F.num, .int .i64 F.den] 51)
    replace rll := rll.keep ke
    replace kk := kk.keep ke
    replace oa := oa.keep ke
    replace ob := ob.keep ke
    replace og := og.keep ke
    replace oh := oh.keep ke
    replace f1 := f1.keep ke
    have g0 := f1.c 0 _ rfl
    have g1 := f1.c 1 _ rfl
    have h0 := f2.c 0 _ rfl
    have h1 := f2.c 1 _ rfl
    have HP := Lib.hid hP
    have HG := Lib.hid hG
    have HF := Lib.hid hF
    clear hP hG hF k7 k8 k9 ka kb kc kd
    go_wp2_with fail
    generalize wd.alloc (.cells #[.int .i64 F.num, .int .i64 F.den] 51) = We at rll kk oa ob og oh f1 g0 g1 h0 h1 ke ⊢
    refine (vInts_same No No _ _ P We oa.readNo ob.readNo).mono ?_
    rintro e wf ⟨_, rfl, rfl, kf⟩
    replace rll := rll.keep kf
    replace kk := kk.keep kf
    replace oa := oa.keep kf
    replace og := og.keep kf
    replace oh := oh.keep kf
    replace f1 := f1.keep kf
    clear ob g0 g1 h0 h1 ke f2
    go_wp2_with fail
    refine (vTable_same No No _ _ G wf og.readNo oh.readNo).mono ?_
    rintro e wg ⟨rfl, hq⟩
    have kg := hq.chg
    replace rll := rll.keep kg
    replace kk := kk.keep kg
    replace oa := oa.keep kg
    replace og := og.keep kg
    replace f1 := f1.keep kg
    clear oh kf kg hq
    cases hask : askedB m p k ll
    · go_wp2_with fail
      go_ret
      exact ⟨rfl, kk⟩
    · have hin := hask
      simp only [askedB, Bool.and_eq_true, decide_eq_true_eq] at hin
      have hg0 := good_new hask
      have hlow := asked_low hask
      have hPP : P = places (newC p k) ll := by rw [← HP.out, hask]; rfl
      have hGG : G = pagesTo (newC p k) ll ll.length := by rw [← HG.out, hask]; rfl
      have h60 := hin.2.1.2
      have q1 := Lib.hid (implNewCache_any m p k wg hin.2.1.1 hin.1.1 hin.1.2)
      have HIN := Lib.hid hin
      have HASK := Lib.hid hask
      have HPP := Lib.hid hPP
      have HGG := Lib.hid hGG
      have HG0 := Lib.hid hg0
      have HLOW := Lib.hid hlow
      clear hin hask hPP hGG hg0 hlow HP HG
      go_wp2_with fail
      refine (q1.out).mono ?_
      rintro e wh ⟨_, _, rfl, rfl, rfl, kh⟩
      replace rll := rll.keep kh
      replace kk := kk.keep kh
      replace oa := oa.keep kh
      replace og := og.keep kh
      replace f1 := f1.keep kh
      have bz := Box.new wh (.int .i64 p) (.int .i64 k) (.slice none 0 0) (.slice none 0 0) (.int .i64 0) 26
      have ki := (Chg.refl No wh).alloc (.cells #[.int .i64 p, .int .i64 k, .slice none 0 0, .slice none 0 0, .int .i64 0] 26)
      have hzi := World.size_alloc wh (.cells #[.int .i64 p, .int .i64 k, .slice none 0 0, .slice none 0 0, .int .i64 0] 26)
      have raA := (oa.read (A := fun q => q = wh.heap.size) (fun q hq e => by have := (oa.lt q hq).2; omega)).keep ki
      have rgA := (og.read (A := fun q => q = wh.heap.size) (fun q hq e => by have := (og.lt q hq).2; omega)).keep ki
      have rlA : RI (fun q => q = wh.heap.size) _ lv ll := rll.to ki (fun _ e => e.elim) (fun q hq => .inr (by omega))
      have hfl := f1.lt
      have hkw := kk.size
      replace kk := kk.keep ki
      replace f1 := f1.keep ki
      clear q1 kh rll oa og
      go_wp2_with fail
      generalize wh.alloc (.cells #[.int .i64 p, .int .i64 k, .slice none 0 0, .slice none 0 0, .int .i64 0] 26) = Wi at bz ki hzi raA rgA rlA kk f1 ⊢
      generalize wh.heap.size = Bz at bz hzi raA rgA rlA hfl hkw ⊢
      clear ki
      obtain ⟨lv1, lc, rfl, _, _, hl2, _, hlv⟩ := id rlA
      have HLV := Lib.hid hlv
      clear hlv
      obtain ⟨gv1, gc, rfl, _, _, hgv⟩ := rgA.view
      have HGV := Lib.hid hgv
      clear hgv
      have hGl : G.length = ll.length := by rw [HGG.out, pagesTo_len]
      go_loopw [30, 31] (fun f i wr => ∃ (j : Nat) (xa : Option Addr) (xn xc : Nat) (ua : Option Addr) (un uc : Nat), j ≤ ll.length ∧ i = .int .i64 j ∧ f = .int .i64 ((placesTo (newC p k) ll j).length : Int) ∧
        Box wr Bz (.int .i64 (runC (newC p k) (ll.take j)).pol) (.int .i64 (runC (newC p k) (ll.take j)).size) (.slice xa xn xc) (.slice ua un uc) (.int .i64 (runC (newC p k) (ll.take j)).hand) ∧
        RC (fun q => q = Bz) wr (.agg #[.int .i64 (runC (newC p k) (ll.take j)).pol, .int .i64 (runC (newC p k) (ll.take j)).size, .slice xa xn xc, .slice ua un uc, .int .i64 (runC (newC p k) (ll.take j)).hand]) (runC (newC p k) (ll.take j)) ∧ Chg (fun q => q = Bz) Wi wr) (fun _ i _ => ll.length - (intOf i).toNat)
      case atStart => exact ⟨0, none, 0, 0, none, 0, 0, Nat.zero_le _, rfl, rfl, bz, ⟨_, _, rfl, RI.nil _ _, RI.nil _ _⟩, Chg.refl _ Wi⟩
      case round =>
        clear bz
        obtain ⟨j, xa, xn, xc, ua, un, uc, hj, rfl, rfl, bz, rc, hch⟩ := hrel
        obtain ⟨z, hz⟩ : ∃ z, runC (newC p k) (ll.take j) = z := ⟨_, rfl⟩
        rw [hz] at bz rc
        have hza : Bz < wr.heap.size := bz.lt
        by_cases hlt : j < ll.length
        · obtain ⟨lb, lo, rfl, hlA, hlb, hlcs⟩ := HLV.out (by intro e; rw [e] at hlt; exact absurd hlt (Nat.not_lt_zero _))
          have hlc := (hch.cellD lb (lo + j) hlb hlA).trans (hlcs j hlt)
          have hlb1 := Nat.lt_of_lt_of_le hlb hch.size
          obtain ⟨x, hx⟩ : ∃ x, ll.getD j 0 = x := ⟨_, rfl⟩
          rw [hx] at hlc
          have hmem : x ∈ ll := by rw [← hx]; exact getD_mem hlt
          have hxr := HLOW.out x hmem
          have hgz : goodC m z = true := hz ▸ good_run _ HG0.out (fun y hy => HLOW.out y (List.mem_of_mem_take hy))
          have HOK : Hid (okB m z x = true) := Lib.hid (by unfold okB; rw [hgz, inB_iff.2 hxr]; rfl)
          obtain ⟨y, hy⟩ : ∃ y, stepC z x = y := ⟨_, rfl⟩
          have HST : Hid (stepV m z x = y) := Lib.hid (by unfold stepV; rw [HOK.out]; exact hy)
          have hrun : runC (newC p k) (ll.take (j + 1)) = y := by
            rw [runC_snoc _ _ _ hlt, hz, ← hy, ← hx, List.getD_eq_getElem?_getD, List.getElem?_eq_getElem hlt]
            rfl
          have HRUN := Lib.hid hrun
          have HPL : Hid (hasB P (j : Int) = !hasB z.pages x) := Lib.hid (by rw [HPP.out, place_has _ _ _ hlt, hz, hx])
          have hpt : placesTo (newC p k) ll (j + 1) = if hasB z.pages x then placesTo (newC p k) ll j else placesTo (newC p k) ll j ++ [(j : Int)] := by
            show (if hasB (runC (newC p k) (ll.take j)).pages (ll.getD j 0) then _ else _) = _
            rw [hz, hx]
          have HPT := Lib.hid hpt
          have hpj := placesTo_le (newC p k) ll j
          obtain ⟨fc, hfc⟩ : ∃ fc, (placesTo (newC p k) ll j).length = fc := ⟨_, rfl⟩
          rw [hfc] at hpj ⊢
          have HFC := Lib.hid hfc
          have hfw : IntKind.i64.wrap ((fc : Int) + 1) = (fc : Int) + 1 := IntWalk.i64_in _ (by omega)
          have hj0 : (0 : Int) ≤ (j : Int) := Int.natCast_nonneg _
          have hj1 : (j : Int) < (ll.length : Int) := by omega
          have hjw : IntKind.i64.wrap ((j : Int) + 1) = (j : Int) + 1 := IntWalk.i64_in _ (by omega)
          have HZ := Lib.hid hz
          have HGZ := Lib.hid hgz
          have HY := Lib.hid hy
          have HX := Lib.hid hx
          have HXR := Lib.hid hxr
          clear hlcs hx hmem hxr hgz hy hrun hpt hfc hz
          cases hbb : hasB z.pages x
          · go_wp2_with fail
            refine wp_region_K (S := (fun W : World => Box W Bz (.int .i64 z.pol) (.int .i64 z.size) (.slice xa xn xc) (.slice ua un uc) (.int .i64 z.hand) ∧ W.cell? ⟨lb, lo + j, none⟩ = some (.int .i64 x))) (k := 10) (by kernel_rfl) ?_
            have kd := (Chg.refl No wr).drew
            replace bz := bz.keep kd
            replace rc := rc.keep kd
            replace hch := hch.keep kd
            replace hlc := (kd.cellD lb (lo + j) hlb1 (fun e => e)).trans hlc
            replace hlb1 := Nat.lt_of_lt_of_le hlb1 kd.size
            replace hza := Nat.le_trans hza kd.size
            generalize wr.drew = W1 at kd bz rc hch hlc hlb1 hza ⊢
            have hS : (fun W : World => Box W Bz (.int .i64 z.pol) (.int .i64 z.size) (.slice xa xn xc) (.slice ua un uc) (.int .i64 z.hand) ∧ W.cell? ⟨lb, lo + j, none⟩ = some (.int .i64 x)) W1 := ⟨bz, hlc⟩
            refine wpAnyK_take0 0 (.int .i64 m) rfl (by kernel_rfl) (fun _ _ _ h => h) hS rfl (by intro w; go_simp) ?_
            simp only [List.getElem_toArray, List.getElem_cons_zero, Act.put, List.setIfInBounds_toArray, List.set_cons_zero, List.set_cons_succ]
            refine wpAnyK_take 1 (.agg #[.int .i64 z.pol, .int .i64 z.size, .slice xa xn xc, .slice ua un uc, .int .i64 z.hand]) rfl (by kernel_rfl) (fun _ _ _ h => h) hS rfl (by rintro w ⟨⟨c0, c1, c2, c3, c4, fr⟩, hl⟩; go_simp) ?_
            simp only [List.getElem_toArray, List.getElem_cons_succ, List.getElem_cons_zero, Act.put, List.setIfInBounds_toArray, List.set_cons_zero, List.set_cons_succ]
            refine wpAnyK_take0 2 (.slice (some ⟨lb, lo, none⟩) ll.length lc) rfl (by kernel_rfl) (fun _ _ _ h => h) hS rfl (by intro w; go_simp) ?_
            simp only [List.getElem_toArray, List.getElem_cons_succ, List.getElem_cons_zero, Act.put, List.setIfInBounds_toArray, List.set_cons_zero, List.set_cons_succ]
            refine wpAnyK_take0 3 (.int .i64 (j : Int)) rfl (by kernel_rfl) (fun _ _ _ h => h) hS rfl (by intro w; go_simp) ?_
            simp only [List.getElem_toArray, List.getElem_cons_succ, List.getElem_cons_zero, Act.put, List.setIfInBounds_toArray, List.set_cons_zero, List.set_cons_succ]
            refine wpAnyK_take 4 (.pointer (some ⟨lb, lo + j, none⟩)) rfl (by kernel_rfl) (fun _ _ _ h => h) hS rfl (by rintro w _; go_simp; try (intro h; omega)) ?_
            simp only [List.getElem_toArray, List.getElem_cons_succ, List.getElem_cons_zero, Act.put, List.setIfInBounds_toArray, List.set_cons_zero, List.set_cons_succ]
            refine wpAnyK_take 5 (.int .i64 x) rfl (by kernel_rfl) (fun _ _ _ h => h) hS rfl (by rintro w ⟨_, hl⟩; go_simp) ?_
            simp only [List.getElem_toArray, List.getElem_cons_succ, List.getElem_cons_zero, Act.put, List.setIfInBounds_toArray, List.set_cons_zero, List.set_cons_succ]
            refine wpAnyK_1 6 (by kernel_rfl) (wpOpK' rfl rfl ?_)
            intro K0 hK0
            refine ocallE (f := 12) (args := #[.int .i64 m, (.agg #[.int .i64 z.pol, .int .i64 z.size, .slice xa xn xc, .slice ua un uc, .int .i64 z.hand]), .int .i64 x]) (φ := fun v W' => v = .tuple #[.bool false, .bool true] ∧ Chg No W1 W') (by go_simp) ((implIsHit_any m x _ z W1 (rc.weak (fun _ e _ => e.elim))).mono (fun e W' ⟨v0, v1, h1, h2, h3, h4⟩ => ⟨_, h1, by rw [h2, h3, hitB, HOK.out, hbb]; rfl, h4⟩)) (fun v2 W2 h2 => ?_)
            obtain ⟨rfl, k2⟩ := h2
            replace bz := bz.keep k2
            replace rc := rc.keep k2
            replace hch := hch.keep k2
            replace hlc := (k2.cellD lb (lo + j) hlb1 (fun e => e)).trans hlc
            replace hlb1 := Nat.lt_of_lt_of_le hlb1 k2.size
            replace hza := Nat.le_trans hza k2.size
            refine hK0.out _ _ ⟨bz, hlc⟩ ?_
            clear hK0 K0 hS
            simp only [List.getElem_toArray, List.getElem_cons_succ, List.getElem_cons_zero, Act.put, List.setIfInBounds_toArray, List.set_cons_zero, List.set_cons_succ]
            refine wpAnyK_take0 7 (.tuple #[.bool false, .bool true]) rfl (by kernel_rfl) (fun _ _ _ h => h) ⟨by assumption, by assumption⟩ rfl (by intro w; go_simp) ?_
            simp only [List.getElem_toArray, List.getElem_cons_succ, List.getElem_cons_zero, Act.put, List.setIfInBounds_toArray, List.set_cons_zero, List.set_cons_succ]
            refine wpAnyK_take0 8 (.bool false) rfl (by kernel_rfl) (fun _ _ _ h => h) ⟨by assumption, by assumption⟩ rfl (by intro w; go_simp) ?_
            simp only [List.getElem_toArray, List.getElem_cons_succ, List.getElem_cons_zero, Act.put, List.setIfInBounds_toArray, List.set_cons_zero, List.set_cons_succ]
            refine wpAnyK_take0 9 (.bool true) rfl (by kernel_rfl) (fun _ _ _ h => h) ⟨by assumption, by assumption⟩ rfl (by intro w; go_simp) ?_
            simp only [List.getElem_toArray, List.getElem_cons_succ, List.getElem_cons_zero, Act.put, List.setIfInBounds_toArray, List.set_cons_zero, List.set_cons_succ]
            refine wpAnyK_tail 10 rfl (by kernel_rfl) ?_
            simp only [List.drop_succ_cons, List.drop_zero]
            have hpl : hasB P (j : Int) = !false := by rw [HPL.out, hbb]
            go_wp2_with (go_at_call 19; refine (vHas_any _ _ P (j : Int) _ (raA.step hch (fun q hq => hq))).mono ?_; rintro e w' ⟨rfl, hww⟩; subst hww; rw [hpl])
            clear hpl
            refine wp_region_K (S := (fun W : World => Box W Bz (.int .i64 z.pol) (.int .i64 z.size) (.slice xa xn xc) (.slice ua un uc) (.int .i64 z.hand) ∧ W.cell? ⟨lb, lo + j, none⟩ = some (.int .i64 x))) (k := 10) (by kernel_rfl) ?_
            have kd := (Chg.refl No W2).drew
            replace bz := bz.keep kd
            replace rc := rc.keep kd
            replace hch := hch.keep kd
            replace hlc := (kd.cellD lb (lo + j) hlb1 (fun e => e)).trans hlc
            replace hlb1 := Nat.lt_of_lt_of_le hlb1 kd.size
            replace hza := Nat.le_trans hza kd.size
            generalize W2.drew = W3 at kd bz rc hch hlc hlb1 hza ⊢
            have hS : (fun W : World => Box W Bz (.int .i64 z.pol) (.int .i64 z.size) (.slice xa xn xc) (.slice ua un uc) (.int .i64 z.hand) ∧ W.cell? ⟨lb, lo + j, none⟩ = some (.int .i64 x)) W3 := ⟨bz, hlc⟩
            refine wpAnyK_take0 0 (.int .i64 m) rfl (by kernel_rfl) (fun _ _ _ h => h) hS rfl (by intro w; go_simp) ?_
            simp only [List.getElem_toArray, List.getElem_cons_zero, Act.put, List.setIfInBounds_toArray, List.set_cons_zero, List.set_cons_succ]
            refine wpAnyK_take 1 (.agg #[.int .i64 z.pol, .int .i64 z.size, .slice xa xn xc, .slice ua un uc, .int .i64 z.hand]) rfl (by kernel_rfl) (fun _ _ _ h => h) hS rfl (by rintro w ⟨⟨c0, c1, c2, c3, c4, fr⟩, hl⟩; go_simp) ?_
            simp only [List.getElem_toArray, List.getElem_cons_succ, List.getElem_cons_zero, Act.put, List.setIfInBounds_toArray, List.set_cons_zero, List.set_cons_succ]
            refine wpAnyK_take0 2 (.slice (some ⟨lb, lo, none⟩) ll.length lc) rfl (by kernel_rfl) (fun _ _ _ h => h) hS rfl (by intro w; go_simp) ?_
            simp only [List.getElem_toArray, List.getElem_cons_succ, List.getElem_cons_zero, Act.put, List.setIfInBounds_toArray, List.set_cons_zero, List.set_cons_succ]
            refine wpAnyK_take0 3 (.int .i64 (j : Int)) rfl (by kernel_rfl) (fun _ _ _ h => h) hS rfl (by intro w; go_simp) ?_
            simp only [List.getElem_toArray, List.getElem_cons_succ, List.getElem_cons_zero, Act.put, List.setIfInBounds_toArray, List.set_cons_zero, List.set_cons_succ]
            refine wpAnyK_take 4 (.pointer (some ⟨lb, lo + j, none⟩)) rfl (by kernel_rfl) (fun _ _ _ h => h) hS rfl (by rintro w _; go_simp; try (intro h; omega)) ?_
            simp only [List.getElem_toArray, List.getElem_cons_succ, List.getElem_cons_zero, Act.put, List.setIfInBounds_toArray, List.set_cons_zero, List.set_cons_succ]
            refine wpAnyK_take 5 (.int .i64 x) rfl (by kernel_rfl) (fun _ _ _ h => h) hS rfl (by rintro w ⟨_, hl⟩; go_simp) ?_
            simp only [List.getElem_toArray, List.getElem_cons_succ, List.getElem_cons_zero, Act.put, List.setIfInBounds_toArray, List.set_cons_zero, List.set_cons_succ]
            refine wpAnyK_1 6 (by kernel_rfl) (wpOpK' rfl rfl ?_)
            intro K0 hK0
            refine ocallE (f := 10) (args := #[.int .i64 m, (.agg #[.int .i64 z.pol, .int .i64 z.size, .slice xa xn xc, .slice ua un uc, .int .i64 z.hand]), .int .i64 x]) (φ := fun v W' => ∃ cv, v = .tuple #[cv, .bool true] ∧ RCO W3.heap.size W' cv y ∧ Chg No W3 W') (by go_simp) ((implStepCache_any m x _ z W3 (rc.weak (fun _ e _ => e.elim))).mono (fun e W' ⟨v0, v1, h1, h2, h3, h4⟩ => ⟨_, h1, v0, by rw [h2, HOK.out], by rw [← HST.out]; exact h3, h4⟩)) (fun v4 W4 h4 => ?_)
            obtain ⟨cv, rfl, rco, k4⟩ := h4
            obtain ⟨ya, yn, yc, va, vn, vc, rfl⟩ := rco.shape
            have bz4 := bz.keep k4
            have hch4 := hch.keep k4
            have hlc4 := (k4.cellD lb (lo + j) hlb1 (fun e => e)).trans hlc
            refine hK0.out _ _ ⟨bz4, hlc4⟩ ?_
            clear hK0 K0 hS
            simp only [List.getElem_toArray, List.getElem_cons_succ, List.getElem_cons_zero, Act.put, List.setIfInBounds_toArray, List.set_cons_zero, List.set_cons_succ]
            refine wpAnyK_take0 7 (.tuple #[.agg #[.int .i64 y.pol, .int .i64 y.size, .slice ya yn yc, .slice va vn vc, .int .i64 y.hand], .bool true]) rfl (by kernel_rfl) (fun _ _ _ h => h) ⟨by assumption, by assumption⟩ rfl (by intro w; go_simp) ?_
            simp only [List.getElem_toArray, List.getElem_cons_succ, List.getElem_cons_zero, Act.put, List.setIfInBounds_toArray, List.set_cons_zero, List.set_cons_succ]
            refine wpAnyK_take0 8 (.agg #[.int .i64 y.pol, .int .i64 y.size, .slice ya yn yc, .slice va vn vc, .int .i64 y.hand]) rfl (by kernel_rfl) (fun _ _ _ h => h) ⟨by assumption, by assumption⟩ rfl (by intro w; go_simp) ?_
            simp only [List.getElem_toArray, List.getElem_cons_succ, List.getElem_cons_zero, Act.put, List.setIfInBounds_toArray, List.set_cons_zero, List.set_cons_succ]
            refine wpAnyK_take0 9 (.bool true) rfl (by kernel_rfl) (fun _ _ _ h => h) ⟨by assumption, by assumption⟩ rfl (by intro w; go_simp) ?_
            simp only [List.getElem_toArray, List.getElem_cons_succ, List.getElem_cons_zero, Act.put, List.setIfInBounds_toArray, List.set_cons_zero, List.set_cons_succ]
            obtain ⟨c0, c1, c2, c3, c4, fr⟩ := id bz4
            refine wpAnyK_tail 10 rfl (by kernel_rfl) ?_
            simp only [List.drop_succ_cons, List.drop_zero]
            go_wp2_with fail
            have s5 := (Chg.refl (fun q => q = Bz) W4).put5 (b := Bz) (fun _ => rfl) (.int .i64 y.pol) (.int .i64 y.size) (.slice ya yn yc) (.slice va vn vc) (.int .i64 y.hand)
            have bz5 := bz4.put5 (.int .i64 y.pol) (.int .i64 y.size) (.slice ya yn yc) (.slice va vn vc) (.int .i64 y.hand)
            have hch5 := hch4.trans s5
            have rc5 : RC (fun q => q = Bz) _ (.agg #[.int .i64 y.pol, .int .i64 y.size, .slice ya yn yc, .slice va vn vc, .int .i64 y.hand]) y := (rco.read (fun q hq e => by have := (rco.lt q hq).1; omega)).step s5 (fun q hq => hq)
            clear c0 c1 c2 c3 c4 fr
            generalize ((((W4.setCell ⟨Bz, 0, none⟩ (.int .i64 y.pol)).setCell ⟨Bz, 1, none⟩ (.int .i64 y.size)).setCell ⟨Bz, 2, none⟩ (.slice ya yn yc)).setCell ⟨Bz, 3, none⟩ (.slice va vn vc)).setCell ⟨Bz, 4, none⟩ (.int .i64 y.hand) = W5 at bz5 hch5 rc5 s5 ⊢
            obtain ⟨gb, gof, gx, rfl, hgA, hgb, hgc, hgx⟩ := HGV.out j (by omega)
            obtain ⟨ha, hcx, rfl, _, _, _, _, _⟩ := id hgx
            have hgd : G.getD j [] = diffL y.pages := by rw [HGG.out, held_at _ _ _ _ hlt, HRUN.out]
            have hgy : goodC m y = true := by rw [← HY.out]; exact good_step HGZ.out HXR.out
            have hgl : (G.getD j []).length = y.pages.length := by rw [hgd]; exact diffL_nod (goodC_nod hgy)
            rw [hgl] at hgc hgx
            rw [hgd] at hgx
            have hyn : yn = y.pages.length := by
              obtain ⟨_, _, he, h1, _⟩ := rc5
              simp only [Value.agg.injEq, Array.mk.injEq, List.cons.injEq, and_true, true_and] at he
              rw [← he.1] at h1
              exact h1.n.1
            subst hyn
            have e1 := (hch5.cellD gb (gof + j) hgb hgA).trans hgc
            have e2 := (s5.cellD lb (lo + j) (Nat.lt_of_lt_of_le hlb1 k4.size) hlA).trans hlc4
            have hhas : hasB (diffL y.pages) x = true := hasB_true.2 (diffL_mem.2 (by rw [← HY.out]; exact (step_mem x (goodC_ok HGZ.out)).2))
            have v1 := Lib.hid (fun W (hW : Chg No W5 W) => vHas_any (fun q => q = Bz) _ (diffL y.pages) x W ((hgx.step hch5 (fun q hq => hq)).keep hW))
            rw [hhas] at v1
            have hj2 : (j : Int) < (G.length : Int) := by omega
            obtain ⟨c0, c1, c2, c3, c4, fr⟩ := id bz5
            clear hgd hgy hgl hhas bz rc hch hlc rco bz4 hch4 hlc4 s5
            go_quiet ((go_at_call 19; with_reducible exact quiet_sym (v1.out _ ((Chg.refl No W5).drewN _))))
            have hd5 := (Chg.refl No W5).drewN nq
            have bz6 := bz5.keep hd5
            have rc6 := rc5.keep hd5
            have hch6 := hch5.keep hd5
            clear c0 c1 c2 c3 c4 fr e1 e2 bz5 rc5 hch5 v1
            generalize W5.drewN nq = W6 at hd5 bz6 rc6 hch6 ⊢
            go_wp2_with fail
            have hcnt : (placesTo (newC p k) ll (j + 1)).length = if false = true then fc else fc + 1 := by
              rw [HPT.out, hbb]
              first
                | (rw [if_pos rfl, if_pos rfl, HFC.out])
                | (rw [if_neg (by simp), if_neg (by simp), List.length_append, HFC.out]; rfl)
            simp only [if_true, Bool.false_eq_true, if_false] at hcnt
            refine ⟨⟨_, _, _, ⟨j + 1, hlt, ?_, ?_, ya, y.pages.length, yc, va, vn, vc, ?_, ?_⟩, rfl, rfl, rfl⟩, ?_⟩
            · go_num
            · (rw [hcnt]; try go_num)
            · rw [HRUN.out]; exact bz6
            · rw [HRUN.out]; exact rc6
            · simp [intOf]; omega
          · go_wp2_with fail
            refine wp_region_K (S := (fun W : World => Box W Bz (.int .i64 z.pol) (.int .i64 z.size) (.slice xa xn xc) (.slice ua un uc) (.int .i64 z.hand) ∧ W.cell? ⟨lb, lo + j, none⟩ = some (.int .i64 x))) (k := 10) (by kernel_rfl) ?_
            have kd := (Chg.refl No wr).drew
            replace bz := bz.keep kd
            replace rc := rc.keep kd
            replace hch := hch.keep kd
            replace hlc := (kd.cellD lb (lo + j) hlb1 (fun e => e)).trans hlc
            replace hlb1 := Nat.lt_of_lt_of_le hlb1 kd.size
            replace hza := Nat.le_trans hza kd.size
            generalize wr.drew = W1 at kd bz rc hch hlc hlb1 hza ⊢
            have hS : (fun W : World => Box W Bz (.int .i64 z.pol) (.int .i64 z.size) (.slice xa xn xc) (.slice ua un uc) (.int .i64 z.hand) ∧ W.cell? ⟨lb, lo + j, none⟩ = some (.int .i64 x)) W1 := ⟨bz, hlc⟩
            refine wpAnyK_take0 0 (.int .i64 m) rfl (by kernel_rfl) (fun _ _ _ h => h) hS rfl (by intro w; go_simp) ?_
            simp only [List.getElem_toArray, List.getElem_cons_zero, Act.put, List.setIfInBounds_toArray, List.set_cons_zero, List.set_cons_succ]
            refine wpAnyK_take 1 (.agg #[.int .i64 z.pol, .int .i64 z.size, .slice xa xn xc, .slice ua un uc, .int .i64 z.hand]) rfl (by kernel_rfl) (fun _ _ _ h => h) hS rfl (by rintro w ⟨⟨c0, c1, c2, c3, c4, fr⟩, hl⟩; go_simp) ?_
            simp only [List.getElem_toArray, List.getElem_cons_succ, List.getElem_cons_zero, Act.put, List.setIfInBounds_toArray, List.set_cons_zero, List.set_cons_succ]
            refine wpAnyK_take0 2 (.slice (some ⟨lb, lo, none⟩) ll.length lc) rfl (by kernel_rfl) (fun _ _ _ h => h) hS rfl (by intro w; go_simp) ?_
            simp only [List.getElem_toArray, List.getElem_cons_succ, List.getElem_cons_zero, Act.put, List.setIfInBounds_toArray, List.set_cons_zero, List.set_cons_succ]
            refine wpAnyK_take0 3 (.int .i64 (j : Int)) rfl (by kernel_rfl) (fun _ _ _ h => h) hS rfl (by intro w; go_simp) ?_
            simp only [List.getElem_toArray, List.getElem_cons_succ, List.getElem_cons_zero, Act.put, List.setIfInBounds_toArray, List.set_cons_zero, List.set_cons_succ]
            refine wpAnyK_take 4 (.pointer (some ⟨lb, lo + j, none⟩)) rfl (by kernel_rfl) (fun _ _ _ h => h) hS rfl (by rintro w _; go_simp; try (intro h; omega)) ?_
            simp only [List.getElem_toArray, List.getElem_cons_succ, List.getElem_cons_zero, Act.put, List.setIfInBounds_toArray, List.set_cons_zero, List.set_cons_succ]
            refine wpAnyK_take 5 (.int .i64 x) rfl (by kernel_rfl) (fun _ _ _ h => h) hS rfl (by rintro w ⟨_, hl⟩; go_simp) ?_
            simp only [List.getElem_toArray, List.getElem_cons_succ, List.getElem_cons_zero, Act.put, List.setIfInBounds_toArray, List.set_cons_zero, List.set_cons_succ]
            refine wpAnyK_1 6 (by kernel_rfl) (wpOpK' rfl rfl ?_)
            intro K0 hK0
            refine ocallE (f := 12) (args := #[.int .i64 m, (.agg #[.int .i64 z.pol, .int .i64 z.size, .slice xa xn xc, .slice ua un uc, .int .i64 z.hand]), .int .i64 x]) (φ := fun v W' => v = .tuple #[.bool true, .bool true] ∧ Chg No W1 W') (by go_simp) ((implIsHit_any m x _ z W1 (rc.weak (fun _ e _ => e.elim))).mono (fun e W' ⟨v0, v1, h1, h2, h3, h4⟩ => ⟨_, h1, by rw [h2, h3, hitB, HOK.out, hbb]; rfl, h4⟩)) (fun v2 W2 h2 => ?_)
            obtain ⟨rfl, k2⟩ := h2
            replace bz := bz.keep k2
            replace rc := rc.keep k2
            replace hch := hch.keep k2
            replace hlc := (k2.cellD lb (lo + j) hlb1 (fun e => e)).trans hlc
            replace hlb1 := Nat.lt_of_lt_of_le hlb1 k2.size
            replace hza := Nat.le_trans hza k2.size
            refine hK0.out _ _ ⟨bz, hlc⟩ ?_
            clear hK0 K0 hS
            simp only [List.getElem_toArray, List.getElem_cons_succ, List.getElem_cons_zero, Act.put, List.setIfInBounds_toArray, List.set_cons_zero, List.set_cons_succ]
            refine wpAnyK_take0 7 (.tuple #[.bool true, .bool true]) rfl (by kernel_rfl) (fun _ _ _ h => h) ⟨by assumption, by assumption⟩ rfl (by intro w; go_simp) ?_
            simp only [List.getElem_toArray, List.getElem_cons_succ, List.getElem_cons_zero, Act.put, List.setIfInBounds_toArray, List.set_cons_zero, List.set_cons_succ]
            refine wpAnyK_take0 8 (.bool true) rfl (by kernel_rfl) (fun _ _ _ h => h) ⟨by assumption, by assumption⟩ rfl (by intro w; go_simp) ?_
            simp only [List.getElem_toArray, List.getElem_cons_succ, List.getElem_cons_zero, Act.put, List.setIfInBounds_toArray, List.set_cons_zero, List.set_cons_succ]
            refine wpAnyK_take0 9 (.bool true) rfl (by kernel_rfl) (fun _ _ _ h => h) ⟨by assumption, by assumption⟩ rfl (by intro w; go_simp) ?_
            simp only [List.getElem_toArray, List.getElem_cons_succ, List.getElem_cons_zero, Act.put, List.setIfInBounds_toArray, List.set_cons_zero, List.set_cons_succ]
            refine wpAnyK_tail 10 rfl (by kernel_rfl) ?_
            simp only [List.drop_succ_cons, List.drop_zero]
            have hpl : hasB P (j : Int) = !true := by rw [HPL.out, hbb]
            go_wp2_with (go_at_call 19; refine (vHas_any _ _ P (j : Int) _ (raA.step hch (fun q hq => hq))).mono ?_; rintro e w' ⟨rfl, hww⟩; subst hww; rw [hpl])
            clear hpl
            refine wp_region_K (S := (fun W : World => Box W Bz (.int .i64 z.pol) (.int .i64 z.size) (.slice xa xn xc) (.slice ua un uc) (.int .i64 z.hand) ∧ W.cell? ⟨lb, lo + j, none⟩ = some (.int .i64 x))) (k := 10) (by kernel_rfl) ?_
            have kd := (Chg.refl No W2).drew
            replace bz := bz.keep kd
            replace rc := rc.keep kd
            replace hch := hch.keep kd
            replace hlc := (kd.cellD lb (lo + j) hlb1 (fun e => e)).trans hlc
            replace hlb1 := Nat.lt_of_lt_of_le hlb1 kd.size
            replace hza := Nat.le_trans hza kd.size
            generalize W2.drew = W3 at kd bz rc hch hlc hlb1 hza ⊢
            have hS : (fun W : World => Box W Bz (.int .i64 z.pol) (.int .i64 z.size) (.slice xa xn xc) (.slice ua un uc) (.int .i64 z.hand) ∧ W.cell? ⟨lb, lo + j, none⟩ = some (.int .i64 x)) W3 := ⟨bz, hlc⟩
            refine wpAnyK_take0 0 (.int .i64 m) rfl (by kernel_rfl) (fun _ _ _ h => h) hS rfl (by intro w; go_simp) ?_
            simp only [List.getElem_toArray, List.getElem_cons_zero, Act.put, List.setIfInBounds_toArray, List.set_cons_zero, List.set_cons_succ]
            refine wpAnyK_take 1 (.agg #[.int .i64 z.pol, .int .i64 z.size, .slice xa xn xc, .slice ua un uc, .int .i64 z.hand]) rfl (by kernel_rfl) (fun _ _ _ h => h) hS rfl (by rintro w ⟨⟨c0, c1, c2, c3, c4, fr⟩, hl⟩; go_simp) ?_
            simp only [List.getElem_toArray, List.getElem_cons_succ, List.getElem_cons_zero, Act.put, List.setIfInBounds_toArray, List.set_cons_zero, List.set_cons_succ]
            refine wpAnyK_take0 2 (.slice (some ⟨lb, lo, none⟩) ll.length lc) rfl (by kernel_rfl) (fun _ _ _ h => h) hS rfl (by intro w; go_simp) ?_
            simp only [List.getElem_toArray, List.getElem_cons_succ, List.getElem_cons_zero, Act.put, List.setIfInBounds_toArray, List.set_cons_zero, List.set_cons_succ]
            refine wpAnyK_take0 3 (.int .i64 (j : Int)) rfl (by kernel_rfl) (fun _ _ _ h => h) hS rfl (by intro w; go_simp) ?_
            simp only [List.getElem_toArray, List.getElem_cons_succ, List.getElem_cons_zero, Act.put, List.setIfInBounds_toArray, List.set_cons_zero, List.set_cons_succ]
            refine wpAnyK_take 4 (.pointer (some ⟨lb, lo + j, none⟩)) rfl (by kernel_rfl) (fun _ _ _ h => h) hS rfl (by rintro w _; go_simp; try (intro h; omega)) ?_
            simp only [List.getElem_toArray, List.getElem_cons_succ, List.getElem_cons_zero, Act.put, List.setIfInBounds_toArray, List.set_cons_zero, List.set_cons_succ]
            refine wpAnyK_take 5 (.int .i64 x) rfl (by kernel_rfl) (fun _ _ _ h => h) hS rfl (by rintro w ⟨_, hl⟩; go_simp) ?_
            simp only [List.getElem_toArray, List.getElem_cons_succ, List.getElem_cons_zero, Act.put, List.setIfInBounds_toArray, List.set_cons_zero, List.set_cons_succ]
            refine wpAnyK_1 6 (by kernel_rfl) (wpOpK' rfl rfl ?_)
            intro K0 hK0
            refine ocallE (f := 10) (args := #[.int .i64 m, (.agg #[.int .i64 z.pol, .int .i64 z.size, .slice xa xn xc, .slice ua un uc, .int .i64 z.hand]), .int .i64 x]) (φ := fun v W' => ∃ cv, v = .tuple #[cv, .bool true] ∧ RCO W3.heap.size W' cv y ∧ Chg No W3 W') (by go_simp) ((implStepCache_any m x _ z W3 (rc.weak (fun _ e _ => e.elim))).mono (fun e W' ⟨v0, v1, h1, h2, h3, h4⟩ => ⟨_, h1, v0, by rw [h2, HOK.out], by rw [← HST.out]; exact h3, h4⟩)) (fun v4 W4 h4 => ?_)
            obtain ⟨cv, rfl, rco, k4⟩ := h4
            obtain ⟨ya, yn, yc, va, vn, vc, rfl⟩ := rco.shape
            have bz4 := bz.keep k4
            have hch4 := hch.keep k4
            have hlc4 := (k4.cellD lb (lo + j) hlb1 (fun e => e)).trans hlc
            refine hK0.out _ _ ⟨bz4, hlc4⟩ ?_
            clear hK0 K0 hS
            simp only [List.getElem_toArray, List.getElem_cons_succ, List.getElem_cons_zero, Act.put, List.setIfInBounds_toArray, List.set_cons_zero, List.set_cons_succ]
            refine wpAnyK_take0 7 (.tuple #[.agg #[.int .i64 y.pol, .int .i64 y.size, .slice ya yn yc, .slice va vn vc, .int .i64 y.hand], .bool true]) rfl (by kernel_rfl) (fun _ _ _ h => h) ⟨by assumption, by assumption⟩ rfl (by intro w; go_simp) ?_
            simp only [List.getElem_toArray, List.getElem_cons_succ, List.getElem_cons_zero, Act.put, List.setIfInBounds_toArray, List.set_cons_zero, List.set_cons_succ]
            refine wpAnyK_take0 8 (.agg #[.int .i64 y.pol, .int .i64 y.size, .slice ya yn yc, .slice va vn vc, .int .i64 y.hand]) rfl (by kernel_rfl) (fun _ _ _ h => h) ⟨by assumption, by assumption⟩ rfl (by intro w; go_simp) ?_
            simp only [List.getElem_toArray, List.getElem_cons_succ, List.getElem_cons_zero, Act.put, List.setIfInBounds_toArray, List.set_cons_zero, List.set_cons_succ]
            refine wpAnyK_take0 9 (.bool true) rfl (by kernel_rfl) (fun _ _ _ h => h) ⟨by assumption, by assumption⟩ rfl (by intro w; go_simp) ?_
            simp only [List.getElem_toArray, List.getElem_cons_succ, List.getElem_cons_zero, Act.put, List.setIfInBounds_toArray, List.set_cons_zero, List.set_cons_succ]
            obtain ⟨c0, c1, c2, c3, c4, fr⟩ := id bz4
            refine wpAnyK_tail 10 rfl (by kernel_rfl) ?_
            simp only [List.drop_succ_cons, List.drop_zero]
            go_wp2_with fail
            have s5 := (Chg.refl (fun q => q = Bz) W4).put5 (b := Bz) (fun _ => rfl) (.int .i64 y.pol) (.int .i64 y.size) (.slice ya yn yc) (.slice va vn vc) (.int .i64 y.hand)
            have bz5 := bz4.put5 (.int .i64 y.pol) (.int .i64 y.size) (.slice ya yn yc) (.slice va vn vc) (.int .i64 y.hand)
            have hch5 := hch4.trans s5
            have rc5 : RC (fun q => q = Bz) _ (.agg #[.int .i64 y.pol, .int .i64 y.size, .slice ya yn yc, .slice va vn vc, .int .i64 y.hand]) y := (rco.read (fun q hq e => by have := (rco.lt q hq).1; omega)).step s5 (fun q hq => hq)
            clear c0 c1 c2 c3 c4 fr
            generalize ((((W4.setCell ⟨Bz, 0, none⟩ (.int .i64 y.pol)).setCell ⟨Bz, 1, none⟩ (.int .i64 y.size)).setCell ⟨Bz, 2, none⟩ (.slice ya yn yc)).setCell ⟨Bz, 3, none⟩ (.slice va vn vc)).setCell ⟨Bz, 4, none⟩ (.int .i64 y.hand) = W5 at bz5 hch5 rc5 s5 ⊢
            obtain ⟨gb, gof, gx, rfl, hgA, hgb, hgc, hgx⟩ := HGV.out j (by omega)
            obtain ⟨ha, hcx, rfl, _, _, _, _, _⟩ := id hgx
            have hgd : G.getD j [] = diffL y.pages := by rw [HGG.out, held_at _ _ _ _ hlt, HRUN.out]
            have hgy : goodC m y = true := by rw [← HY.out]; exact good_step HGZ.out HXR.out
            have hgl : (G.getD j []).length = y.pages.length := by rw [hgd]; exact diffL_nod (goodC_nod hgy)
            rw [hgl] at hgc hgx
            rw [hgd] at hgx
            have hyn : yn = y.pages.length := by
              obtain ⟨_, _, he, h1, _⟩ := rc5
              simp only [Value.agg.injEq, Array.mk.injEq, List.cons.injEq, and_true, true_and] at he
              rw [← he.1] at h1
              exact h1.n.1
            subst hyn
            have e1 := (hch5.cellD gb (gof + j) hgb hgA).trans hgc
            have e2 := (s5.cellD lb (lo + j) (Nat.lt_of_lt_of_le hlb1 k4.size) hlA).trans hlc4
            have hhas : hasB (diffL y.pages) x = true := hasB_true.2 (diffL_mem.2 (by rw [← HY.out]; exact (step_mem x (goodC_ok HGZ.out)).2))
            have v1 := Lib.hid (fun W (hW : Chg No W5 W) => vHas_any (fun q => q = Bz) _ (diffL y.pages) x W ((hgx.step hch5 (fun q hq => hq)).keep hW))
            rw [hhas] at v1
            have hj2 : (j : Int) < (G.length : Int) := by omega
            obtain ⟨c0, c1, c2, c3, c4, fr⟩ := id bz5
            clear hgd hgy hgl hhas bz rc hch hlc rco bz4 hch4 hlc4 s5
            go_quiet ((go_at_call 19; with_reducible exact quiet_sym (v1.out _ ((Chg.refl No W5).drewN _))))
            have hd5 := (Chg.refl No W5).drewN nq
            have bz6 := bz5.keep hd5
            have rc6 := rc5.keep hd5
            have hch6 := hch5.keep hd5
            clear c0 c1 c2 c3 c4 fr e1 e2 bz5 rc5 hch5 v1
            generalize W5.drewN nq = W6 at hd5 bz6 rc6 hch6 ⊢
            go_wp2_with fail
            have hcnt : (placesTo (newC p k) ll (j + 1)).length = if true = true then fc else fc + 1 := by
              rw [HPT.out, hbb]
              first
                | (rw [if_pos rfl, if_pos rfl, HFC.out])
                | (rw [if_neg (by simp), if_neg (by simp), List.length_append, HFC.out]; rfl)
            simp only [if_true, Bool.false_eq_true, if_false] at hcnt
            refine ⟨⟨_, _, _, ⟨j + 1, hlt, ?_, ?_, ya, y.pages.length, yc, va, vn, vc, ?_, ?_⟩, rfl, rfl, rfl⟩, ?_⟩
            · go_num
            · (rw [hcnt]; try go_num)
            · rw [HRUN.out]; exact bz6
            · rw [HRUN.out]; exact rc6
            · simp [intOf]; omega
        · have hjl : j = ll.length := by omega
          subst hjl
          rw [List.take_length] at hz
          have hokR : okR m (newC p k) ll = true := by
            unfold okR reqB
            rw [HG0.out, HIN.out.2.1.1, HIN.out.2.2]
            simp [h60]
          have hrv : runV m (newC p k) ll = z := by unfold runV; rw [hokR]; exact hz
          have hcv : cntV m (newC p k) ll = ((places (newC p k) ll).length : Int) := by unfold cntV; rw [hokR]; rfl
          have hPl : (placesTo (newC p k) ll ll.length).length = P.length := by rw [HPP.out]; rfl
          have hcv2 : cntV m (newC p k) ll = (P.length : Int) := by rw [hcv, HPP.out]
          have hsh : F.ok = true → F.num * (ll.length : Int) = ((ll.length : Int) - (P.length : Int)) * F.den ∧ 0 ≤ F.num ∧ F.num ≤ (ll.length : Int) ∧ 0 ≤ F.den ∧ F.den ≤ (ll.length : Int) := fun h => by
            have := share_eq (n := m) (p := p) (k := k) (l := ll) (by rw [HF.out]; exact h)
            rw [HF.out, ← HPP.out] at this
            exact this
          have hPle : P.length ≤ ll.length := by rw [← hPl]; exact placesTo_le _ _ _
          have rll := rlA.weak (B := No) (fun _ e _ => e.elim)
          rw [hPl]
          have HSH := Lib.hid hsh
          have HRV := Lib.hid hrv
          have HCV := Lib.hid hcv2
          have HOKR := Lib.hid hokR
          clear hokR hrv hcv hPl hcv2 hsh hz
          go_wp2_with fail
          refine (implNewCache_any m p k wr HIN.out.2.1.1 HIN.out.1.1 HIN.out.1.2).mono ?_
          rintro e wj ⟨_, _, rfl, rfl, rfl, kj⟩
          replace bz := bz.keep kj
          replace rc := rc.keep kj
          replace hch := hch.keep kj
          have bq := Box.new wj (.int .i64 p) (.int .i64 k) (.slice none 0 0) (.slice none 0 0) (.int .i64 0) 26
          have kq := (Chg.refl No wj).alloc (.cells #[.int .i64 p, .int .i64 k, .slice none 0 0, .slice none 0 0, .int .i64 0] 26)
          replace bz := bz.keep kq
          replace rc := rc.keep kq
          replace hch := hch.keep kq
          obtain ⟨c0, c1, c2, c3, c4, fr⟩ := id bq
          go_wp2_with fail
          clear c0 c1 c2 c3 c4 fr
          generalize wj.alloc (.cells #[.int .i64 p, .int .i64 k, .slice none 0 0, .slice none 0 0, .int .i64 0] 26) = Wj at bq kq bz rc hch ⊢
          clear kq
          have hrc0 : RC No Wj (.agg #[.int .i64 p, .int .i64 k, .slice none 0 0, .slice none 0 0, .int .i64 0]) (newC p k) := ⟨_, _, rfl, RI.nil _ _, RI.nil _ _⟩
          have hrl0 : RI No Wj (.slice lv1 ll.length lc) ll := (rlA.step hch (fun q hq => hq)).weak (fun _ e _ => e.elim)
          refine (implRunCache_any m (.agg #[.int .i64 p, .int .i64 k, .slice none 0 0, .slice none 0 0, .int .i64 0]) (.slice lv1 ll.length lc) (newC p k) ll Wj hrc0 hrl0).mono ?_
          rw [HRV.out, HCV.out, HOKR.out]
          rintro e wl ⟨_, _, _, rfl, rfl, rfl, re, kl⟩
          obtain ⟨ea, en, ec, ga2, gn2, gc2, rfl⟩ := re.shape
          have re := re.readNo
          replace bz := bz.keep kl
          replace rc := rc.keep kl
          replace hch := hch.keep kl
          have be := Box.new wl (.int .i64 z.pol) (.int .i64 z.size) (.slice ea en ec) (.slice ga2 gn2 gc2) (.int .i64 z.hand) 26
          have km := (Chg.refl No wl).alloc (.cells #[.int .i64 z.pol, .int .i64 z.size, .slice ea en ec, .slice ga2 gn2 gc2, .int .i64 z.hand] 26)
          replace re := re.keep km
          replace bz := bz.keep km
          replace rc := rc.keep km
          replace hch := hch.keep km
          obtain ⟨c0, c1, c2, c3, c4, fr⟩ := id bz
          obtain ⟨d0, d1, d2, d3, d4, dr⟩ := id be
          go_wp2_with fail
          refine (vCache_same No No _ _ z _ re (rc.weak (fun _ e _ => e.elim))).mono ?_
          rintro e wn ⟨_, rfl, rfl, kn⟩
          replace bz := bz.keep kn
          replace hch := hch.keep kn
          have hbF : ¬ Fb = Bz := by omega
          have f1n := f1.step hch hbF
          have g0 := f1n.c 0 _ rfl
          have g1 := f1n.c 1 _ rfl
          have raN := raA.step hch (fun q hq => hq)
          have hPn : RI _ wn av P := raN
          obtain ⟨pa2, pc2, rfl, _⟩ := id hPn
          clear c0 c1 c2 c3 c4 fr d0 d1 d2 d3 d4 dr
          have kfin : Chg No _ wn := kk.step hch (fun q hq hl => by omega)
          cases hok : F.ok
          · go_wp2_with fail
            go_ret
            exact ⟨rfl, kfin⟩
          · obtain ⟨h1, h2, h3, h4, h5⟩ := HSH.out hok
            have hL1 : (ll.length : Int) ≤ 60 := by omega
            have hL0 : (0 : Int) ≤ (ll.length : Int) := Int.natCast_nonneg _
            have m1 : 0 ≤ F.num * (ll.length : Int) := Int.mul_nonneg h2 hL0
            have m2 : F.num * (ll.length : Int) ≤ 60 * 60 := Int.mul_le_mul (by omega) hL1 hL0 (by omega)
            have w1 : IntKind.i64.wrap (F.num * (ll.length : Int)) = F.num * (ll.length : Int) := IntWalk.i64_in _ (by omega)
            have w2 : IntKind.i64.wrap ((ll.length : Int) - (P.length : Int)) = (ll.length : Int) - (P.length : Int) := IntWalk.i64_in _ (by omega)
            have w3 : IntKind.i64.wrap (((ll.length : Int) - (P.length : Int)) * F.den) = ((ll.length : Int) - (P.length : Int)) * F.den := by rw [← h1]; exact w1
            obtain ⟨A1, hA1⟩ : ∃ A1, F.num * (ll.length : Int) = A1 := ⟨_, rfl⟩
            obtain ⟨A2, hA2⟩ : ∃ A2, ((ll.length : Int) - (P.length : Int)) * F.den = A2 := ⟨_, rfl⟩
            go_wp2_with fail
            go_ret
            exact ⟨rfl, kfin⟩
end Go.Proofs.YtegipldajbkjfaaGreat
