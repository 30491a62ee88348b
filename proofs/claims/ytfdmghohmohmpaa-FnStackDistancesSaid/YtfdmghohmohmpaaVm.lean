import Derived.Test.YtfdmghohmohmpaaRb
import Derived.Test.YtfdmghohmohmpaaVn
import Derived.Test.YtfdmghohmohmpaaRa
import Derived.Test.YtfdmghohmohmpaaUg
/- FnStackDistances: the law -/
namespace Go.Proofs.Ytfdmghohmohmpaa
open Go.RowKit

set_option maxRecDepth 100000 in
theorem vAt2_any (v : Value) (n : Nat) (k : Nat) (w : World) (h : Code w v n) (hn : n ≤ 70001) (hk : k ≤ 100) :
    Calls Try.prog 18 #[v, .int .i64 (k : Int)] w fun e w' => ∃ x : Int, e = .returned (.int .i64 x) ∧ 0 ≤ x ∧ x ≤ 255 ∧ w' = w := by
  obtain ⟨l, hl, ⟨a, cap, rfl, h1, h2, h3, h4, h5⟩, hx⟩ := h
  have hk0 : (0 : Int) ≤ (k : Int) := Int.natCast_nonneg _
  by_cases hlt : (k : Int) < (n : Int)
  · obtain ⟨b, off, rfl, _, hb, hcell⟩ := h5 (by omega)
    have hkl : k < l.length := by omega
    have hc := hcell k (by rw [List.length_map]; omega)
    have he : (l.map (Value.int .u8)).getD k undef = .int .u8 (l.getD k 0) := by
      rw [List.getD_eq_getElem?_getD, List.getElem?_map, List.getElem?_eq_getElem hkl, List.getD_eq_getElem?_getD, List.getElem?_eq_getElem hkl]
      rfl
    rw [he] at hc
    have hr := hx (l.getD k 0) (by
      rw [List.getD_eq_getElem?_getD, List.getElem?_eq_getElem hkl]
      exact List.getElem_mem hkl)
    obtain ⟨x, hxx⟩ : ∃ x, l.getD k 0 = x := ⟨_, rfl⟩
    rw [hxx] at hc hr
    have hw1 : IntKind.i64.wrap x = x := IntWalk.i64_in _ (by omega)
    clear hcell h5 he hxx
    go_enter Try.func18, Try.ntmps18
    go_wp2_with fail
    go_ret
    exact ⟨x, rfl, hr.1, hr.2, rfl⟩
  · have hw1 : IntKind.i64.wrap ((k : Int) * 7) = (k : Int) * 7 := IntWalk.i64_in _ (by omega)
    have hw2 : IntKind.i64.wrap ((k : Int) * 7 + (n : Int)) = (k : Int) * 7 + (n : Int) := IntWalk.i64_in _ (by omega)
    have ht := Int.tmod_eq_emod_of_nonneg (a := (k : Int) * 7 + (n : Int)) (b := 256) (by omega)
    clear h5
    go_enter Try.func18, Try.ntmps18
    go_wp2_with fail
    go_ret
    exact ⟨_, rfl, by omega, by omega, rfl⟩


set_option maxRecDepth 100000 in
set_option maxHeartbeats 8000000 in
theorem law_StackDistances (v : Value) (N : Nat) (w : World) (h : Code w v N) :
    Calls Try.prog 3 #[v] w fun e w' => e = .returned (.bool true) ∧ Chg No w w' := by
  obtain ⟨a, cp, rfl⟩ := h.shape
  have HLO := Lib.hid implLastOrder_any
  go_enter Try.func3, Try.ntmps3
  go_wp2_with fail
  refine (vBig_any _ _ _ h).mono ?_
  rintro e w' ⟨rfl, rfl⟩
  by_cases hbig : (65536 : Int) < (N : Int)
  · go_wp2_with fail
    go_ret
    exact ⟨rfl, Chg.refl No _⟩
  · go_wp2_with fail
    refine (DrawStack_any _ _ _ h (by omega)).mono ?_
    rintro e w1 ⟨n, rv, l, rfl, ol, hl, kk⟩
    have rr := ol.readNo
    clear ol
    obtain ⟨D, hD⟩ : ∃ D, (if reqB n l then distTo l l.length else []) = D := ⟨_, rfl⟩
    obtain ⟨C, hC⟩ : ∃ C, (if reqB n l then cntL (n.toNat + 1) (distTo l l.length) else []) = C := ⟨_, rfl⟩
    obtain ⟨V, hV⟩ : ∃ V, (if reqB n l then crvTo l 6 else []) = V := ⟨_, rfl⟩
    obtain ⟨O, hO⟩ : ∃ O, (if reqB n l then ordL l else []) = O := ⟨_, rfl⟩
    go_wp2_with fail
    refine (implStack_any No n rv l w1 rr).mono ?_
    rw [hD]
    rintro e w2 ⟨d1, _, rfl, rfl, od1, k2⟩
    replace rr := rr.keep k2
    replace kk := kk.keep k2
    go_wp2_with fail
    refine (specStack_any No n rv l w2 rr).mono ?_
    rw [hD]
    rintro e w3 ⟨d2, _, rfl, rfl, od2, k3⟩
    replace rr := rr.keep k3
    replace kk := kk.keep k3
    replace od1 := od1.keep k3
    go_wp2_with fail
    refine (implCounts_any No n rv l w3 rr).mono ?_
    rw [hC]
    rintro e w4 ⟨c1, _, rfl, rfl, oc1, k4⟩
    replace rr := rr.keep k4
    replace kk := kk.keep k4
    replace od1 := od1.keep k4
    replace od2 := od2.keep k4
    go_wp2_with fail
    refine (specCounts_any No n rv l w4 rr).mono ?_
    rw [hC]
    rintro e w5 ⟨c2, _, rfl, rfl, oc2, k5⟩
    replace rr := rr.keep k5
    replace kk := kk.keep k5
    replace od1 := od1.keep k5
    replace od2 := od2.keep k5
    replace oc1 := oc1.keep k5
    go_wp2_with fail
    refine (implCurve_any No n rv l w5 rr).mono ?_
    rw [hV]
    rintro e w6 ⟨v1, _, rfl, rfl, ov1, k6⟩
    replace rr := rr.keep k6
    replace kk := kk.keep k6
    replace od1 := od1.keep k6
    replace od2 := od2.keep k6
    replace oc1 := oc1.keep k6
    replace oc2 := oc2.keep k6
    go_wp2_with fail
    refine (specCurve_any No n rv l w6 rr).mono ?_
    rw [hV]
    rintro e w7 ⟨v2, _, rfl, rfl, ov2, k7⟩
    replace rr := rr.keep k7
    replace kk := kk.keep k7
    replace od1 := od1.keep k7
    replace od2 := od2.keep k7
    replace oc1 := oc1.keep k7
    replace oc2 := oc2.keep k7
    replace ov1 := ov1.keep k7
    go_wp2_with fail
    refine (HLO.out n rv l w7 rr).mono ?_
    rw [hO]
    rintro e w8 ⟨o1, _, rfl, rfl, oo1, k8⟩
    replace rr := rr.keep k8
    replace kk := kk.keep k8
    replace od1 := od1.keep k8
    replace od2 := od2.keep k8
    replace oc1 := oc1.keep k8
    replace oc2 := oc2.keep k8
    replace ov1 := ov1.keep k8
    replace ov2 := ov2.keep k8
    go_wp2_with fail
    refine (specLastOrder_any No n rv l w8 rr).mono ?_
    rw [hO]
    rintro e w9 ⟨o2, _, rfl, rfl, oo2, k9⟩
    replace rr := rr.keep k9
    replace kk := kk.keep k9
    replace od1 := od1.keep k9
    replace od2 := od2.keep k9
    replace oc1 := oc1.keep k9
    replace oc2 := oc2.keep k9
    replace ov1 := ov1.keep k9
    replace ov2 := ov2.keep k9
    replace oo1 := oo1.keep k9
    have HEQ := Lib.hid (And.intro hD (And.intro hC (And.intro hV hO)))
    clear hD hC hV hO k2 k3 k4 k5 k6 k7 k8 k9 HLO
    go_wp2_with fail
    refine (vInts_same No No _ _ D w9 od1.readNo od2.readNo).mono ?_
    rintro e wa ⟨_, rfl, rfl, ka⟩
    go_wp2_with fail
    refine (vInts_same No No _ _ C wa (oc1.keep ka).readNo (oc2.keep ka).readNo).mono ?_
    rintro e wb ⟨_, rfl, rfl, kb⟩
    go_wp2_with fail
    refine (vInts_same No No _ _ V wb ((ov1.keep ka).keep kb).readNo ((ov2.keep ka).keep kb).readNo).mono ?_
    rintro e wc ⟨_, rfl, rfl, kc⟩
    go_wp2_with fail
    refine (vInts_same No No _ _ O wc (((oo1.keep ka).keep kb).keep kc).readNo (((oo2.keep ka).keep kb).keep kc).readNo).mono ?_
    rintro e wd ⟨_, rfl, rfl, kd⟩
    have k4 := ((ka.keep kb).keep kc).keep kd
    replace rr := rr.keep k4
    replace kk := kk.keep k4
    have rD := (od1.keep k4).readNo
    have rC := (oc1.keep k4).readNo
    have rV := (ov1.keep k4).readNo
    have rO := (oo1.keep k4).readNo
    have hcode := h.keep kk
    clear od1 od2 oc1 oc2 ov1 ov2 oo1 oo2 ka kb kc kd k4
    cases hq : reqB n l
    · go_wp2_with fail
      go_ret
      exact ⟨rfl, kk⟩
    · obtain ⟨hlen, hn, hlow⟩ := reqB_len hq
      obtain ⟨e1, e2, e3, e4⟩ := HEQ.out
      rw [hq, if_pos rfl] at e1 e2 e3 e4
      have q1 := Lib.hid (implLastUses_any No n rv l wd rr)
      rw [hq, if_pos rfl] at q1
      have HQ := Lib.hid hq
      have HE := Lib.hid (And.intro e1 (And.intro e2 (And.intro e3 e4)))
      have HLOW := Lib.hid hlow
      clear hq e1 e2 e3 e4 hlow HEQ
      go_wp2_with fail
      refine (q1.out).mono ?_
      rintro e we ⟨lv, _, rfl, rfl, oL, ke⟩
      have rL := oL.readNo
      replace rr := rr.keep ke
      replace kk := kk.keep ke
      replace rD := rD.keep ke
      replace rC := rC.keep ke
      replace rV := rV.keep ke
      replace rO := rO.keep ke
      replace hcode := hcode.keep ke
      clear oL ke q1
      obtain ⟨e1, e2, e3, e4⟩ := HE.out
      have hDl : D.length = l.length := by rw [← e1, distTo_len]
      have hVl : V.length = 6 := by rw [← e3, crvTo_len]
      obtain ⟨da, dc, rfl, _, _, _, _, hdv⟩ := id rD
      obtain ⟨la, lc, rfl, _, _, _, _, hlv⟩ := id rL
      rw [lastsTo_len] at hlv ⊢
      obtain ⟨va, vc, rfl, _, _, _, _, hvv⟩ := id rV
      obtain ⟨oa, oc, rfl, _⟩ := id rO
      obtain ⟨ra, rc, rfl, _⟩ := id rr
      have HDV := Lib.hid hdv
      have HLV := Lib.hid hlv
      have HVV := Lib.hid hvv
      have hD0 : Hid (∀ j, j < l.length → D.getD j 0 = distL l j) := Lib.hid (fun j hj => by rw [← e1]; exact distTo_at _ _ _ hj)
      clear hdv hlv hvv e1 e2 e3 e4
      go_wp2_with fail
      go_loopw [23] (fun i wr => ∃ j : Nat, j ≤ l.length ∧ i = .int .i64 j ∧ Chg No we wr) (fun i _ => l.length - (intOf i).toNat)
      case atStart => exact ⟨0, Nat.zero_le _, rfl, Chg.refl No we⟩
      case round =>
        obtain ⟨j, hj, rfl, hch⟩ := hrel
        by_cases hlt : j < l.length
        · obtain ⟨lb, lo, rfl, _, hlb, hlc⟩ := HLV.out (by intro e; have := lastsTo_len l l.length; rw [e] at this; simp at this; omega)
          obtain ⟨db, dof, rfl, _, hdb, hdc⟩ := HDV.out (by intro e; rw [e] at hDl; simp at hDl; omega)
          have c1 := (hch.cellD _ _ hlb (fun e => e)).trans (hlc j hlt)
          have c2 := (hch.cellD _ _ hdb (fun e => e)).trans (hdc j (by omega))
          rw [lastsTo_at _ _ _ hlt] at c1
          rw [hD0.out j hlt] at c2
          obtain ⟨pp, hpp⟩ : ∃ pp, lastP l (l.getD j 0) j = pp := ⟨_, rfl⟩
          have hneg := (dist_last hlt).1
          have hlow := lastP_low l (l.getD j 0) j
          rw [hpp] at c1 hneg hlow
          have hwd := Lib.hid (fun (pn : Nat) (e : pp = (pn : Int)) => win_dist hlt (hpp.trans e))
          obtain ⟨dd, hdd⟩ : ∃ dd, distL l j = dd := ⟨_, rfl⟩
          rw [hdd] at c2 hneg hwd
          have hj0 : (0 : Int) ≤ (j : Int) := Int.natCast_nonneg _
          have hj1 : (j : Int) < (l.length : Int) := by omega
          have hj2 : (j : Int) < (D.length : Int) := by omega
          have hjw : IntKind.i64.wrap ((j : Int) + 1) = (j : Int) + 1 := IntWalk.i64_in _ (by omega)
          clear hlc hdc hpp hdd
          by_cases hp0 : pp < 0
          · have hd0 := hneg hp0
            subst hd0
            clear hneg
            go_wp2_with fail
            go_round
            case rel => exact ⟨j + 1, hlt, by go_num, hch⟩
            case measure => simp [intOf]; omega
          · obtain ⟨pn, rfl⟩ : ∃ pn : Nat, pp = (pn : Int) := ⟨pp.toNat, by omega⟩
            have hww : IntKind.i64.wrap ((j : Int) - (pn : Int)) = ((j - pn : Nat) : Int) := (IntWalk.i64_in _ (by omega)).trans (by omega)
            obtain ⟨mw, hmw⟩ : ∃ mw, j - pn = mw := ⟨_, rfl⟩
            have hm1 : 1 ≤ mw ∧ mw ≤ 60 := by omega
            have hdv := hwd.out pn rfl
            rw [hmw] at hww hdv
            have q3 := Lib.hid (windowSizes_any No n mw _ l wr (rr.keep hch) HQ.out hm1)
            have hdw : Hid ((winsTo l mw l.length).getD j 0 = dd) := Lib.hid (by rw [winsTo_at _ _ _ _ hlt, hdv])
            clear hneg hwd hdv hmw
            go_wp2_with fail
            refine (q3.out).mono ?_
            rintro e wf ⟨sv, _, rfl, rfl, os, kf⟩
            obtain ⟨sa, sc, hse, _, _, hsv⟩ := os.view
            rw [winsTo_len] at hse hsv
            subst hse
            have rs := os.readNo
            obtain ⟨sb, sof, hsb, _, hsz, hsc⟩ := rs.cellAt (by intro e; have := winsTo_len l mw l.length; rw [e] at this; simp at this; omega)
            subst hsb
            have c3 := hsc j (by rw [winsTo_len]; exact hlt)
            rw [hdw.out] at c3
            have hch2 := hch.keep kf
            have c2' := (hch2.cellD _ _ hdb (fun e => e)).trans ((hch.cellD _ _ hdb (fun e => e)).symm.trans c2)
            clear c1 c2 hsv hsc q3 hdw
            go_wp2_with fail
            go_quiet (fail)
            have hd2 := (Chg.refl No wf).drewN nq
            replace hch2 := hch2.keep hd2
            clear c2' c3
            generalize wf.drewN nq = W2 at hd2 hch2 ⊢
            go_wp2_with fail
            go_round
            case rel => exact ⟨j + 1, hlt, by go_num, hch2⟩
            case measure => simp [intOf]; omega
        · have hjl : j = l.length := by omega
          subst hjl
          have hasq : askedB n 1 1 l = true := by
            have := HQ.out
            unfold reqB at this
            unfold askedB
            rw [this]
            rfl
          have hbs : (if askedB n 1 1 l then bySizeTo 1 l 6 else []) = V := by rw [hasq, if_pos rfl, bySize_crv, ← HE.out.2.2.1]
          have q4 := Lib.hid (implFaultsBySize_any n 1 _ l wr (rr.keep hch))
          rw [hbs] at q4
          replace rr := rr.keep hch
          replace kk := kk.keep hch
          replace rC := rC.keep hch
          replace rV := rV.keep hch
          replace rO := rO.keep hch
          replace hcode := hcode.keep hch
          have HASQ := Lib.hid hasq
          clear hasq hbs rD rL hch HDV HLV hD0
          go_wp2_with fail
          refine (q4.out).mono ?_
          rintro e wf ⟨fv, _, rfl, rfl, ofv, kf⟩
          replace rr := rr.keep kf
          replace kk := kk.keep kf
          replace rC := rC.keep kf
          replace rV := rV.keep kf
          replace rO := rO.keep kf
          replace hcode := hcode.keep kf
          have rF := ofv.readNo
          clear ofv kf q4
          go_wp2_with fail
          refine (vAt2_any _ N 7 wf hcode (by omega) (by omega)).mono ?_
          rintro e wg ⟨x7, rfl, h70, h71, rfl⟩
          have ht7 := Int.tmod_eq_emod_of_nonneg (a := x7) (b := 6) h70
          obtain ⟨kn, hkn⟩ : ∃ kn : Nat, x7 % 6 = (kn : Int) := ⟨(x7 % 6).toNat, by omega⟩
          have hk6 : kn < 6 := by omega
          obtain ⟨k, hk⟩ : ∃ k, 1 + x7 % 6 = k := ⟨_, rfl⟩
          have hkk : k = (kn : Int) + 1 := by omega
          have hk16 : 1 ≤ k ∧ k ≤ 6 := by omega
          have hw7 : IntKind.i64.wrap (1 + x7 % 6) = k := by rw [hk]; exact IntWalk.i64_in _ (by omega)
          have hwk : IntKind.i64.wrap (k - 1) = (kn : Int) := (IntWalk.i64_in _ (by omega)).trans (by omega)
          have hok : okR n (newC 1 k) l = true := by
            have hg : askedB n 1 k l = true := by
              have := HQ.out
              unfold reqB at this
              unfold askedB
              rw [this, inB_iff.2 hk16]
              rfl
            unfold okR
            rw [good_new hg, HQ.out]
            rfl
          obtain ⟨z, hz⟩ : ∃ z, runC (newC 1 k) l = z := ⟨_, rfl⟩
          have hrv : runV n (newC 1 k) l = z := by unfold runV; rw [hok]; exact hz
          have hmv : V.getD kn 0 = (missN l k l.length : Int) := by rw [← HE.out.2.2.1, crvTo_at _ _ _ hk6, ← hkk]
          have hcv : cntV n (newC 1 k) l = V.getD kn 0 := by
            rw [hmv]
            unfold cntV
            rw [hok]
            show ((places (newC 1 k) l).length : Int) = _
            rw [show (places (newC 1 k) l).length = missN l k l.length from lru_places hk16.1 l l.length]
          have hzp : z.pages = O.take k.toNat := by rw [← hz, lru_pages hk16.1, ← HE.out.2.2.2]
          have hzl : z.pages.length ≤ O.length := by rw [hzp, List.length_take]; omega
          have hzt : O.take z.pages.length = z.pages := by
            rw [hzp, List.length_take]
            by_cases h : k.toNat ≤ O.length
            · rw [Nat.min_eq_left h]
            · rw [Nat.min_eq_right (by omega), List.take_of_length_le (Nat.le_refl _), List.take_of_length_le (by omega)]
          obtain ⟨mm, hmm⟩ : ∃ mm, V.getD kn 0 = mm := ⟨_, rfl⟩
          rw [hmm] at hcv
          have HMM := Lib.hid hmm
          clear hmm
          have hin1 : inB n 1 8 = true := inB_iff.2 hn
          have hin2 : inB k 1 6 = true := inB_iff.2 hk16
          have hCC := HE.out.2.1
          have hsum : sumL C = (l.length : Int) := by
            rw [← hCC, sum_counts, distTo_len]
            intro x hx
            obtain ⟨i, hi, he⟩ := List.mem_iff_getElem.1 hx
            have := dist_in HQ.out i hi
            rw [List.getD_eq_getElem?_getD, List.getElem?_eq_getElem hi] at this
            simp only [Option.getD_some] at this
            rw [he] at this
            exact this
          have hsb : ∀ j, j ≤ C.length → -1000000000 ≤ sumL (C.take j) ∧ sumL (C.take j) ≤ 1000000000 := fun j hj => by
            have hCl : C.length = n.toNat + 1 := by rw [← hCC, cntL_len]
            have hb : ∀ i, 0 ≤ C.getD i 0 ∧ C.getD i 0 ≤ 60 := fun i => by
              have := cnt_bound (n.toNat + 1) (distTo l l.length) i
              rw [distTo_len] at this
              rw [← hCC]
              omega
            have := sum_bound C hb (by decide) j hj
            omega
          have HZ := Lib.hid (And.intro hrv (And.intro hcv hok))
          have HZT := Lib.hid hzt
          have HSUM := Lib.hid hsum
          have q5 := Lib.hid (fun W (hW : RI No W c1 C) => vSum_any No _ C W hW hsb)
          rw [hsum] at q5
          clear hrv hcv hok hmv hzt hsum hsb hCC hz hkn hk hkk hzp
          go_wp2_with fail
          refine (implNewCache_any n 1 k _ hin1 rfl hin2).mono ?_
          rintro e wh ⟨_, _, rfl, rfl, rfl, kh⟩
          have bz := Box.new wh (.int .i64 1) (.int .i64 k) (.slice none 0 0) (.slice none 0 0) (.int .i64 0) 34
          have ki := (Chg.refl No wh).alloc (.cells #[.int .i64 1, .int .i64 k, .slice none 0 0, .slice none 0 0, .int .i64 0] 34)
          have kj := kh.keep ki
          replace rr := rr.keep kj
          replace kk := kk.keep kj
          replace rC := rC.keep kj
          replace rV := rV.keep kj
          replace rO := rO.keep kj
          replace rF := rF.keep kj
          obtain ⟨c0, c1', c2', c3, c4, fr⟩ := id bz
          go_wp2_with fail
          clear c0 c1' c2' c3 c4 fr kh ki kj
          generalize wh.alloc (.cells #[.int .i64 1, .int .i64 k, .slice none 0 0, .slice none 0 0, .int .i64 0] 34) = Wi at bz rr kk rC rV rO rF ⊢
          clear bz
          have hrc0 : RC No Wi (.agg #[.int .i64 1, .int .i64 k, .slice none 0 0, .slice none 0 0, .int .i64 0]) (newC 1 k) := ⟨_, _, rfl, RI.nil _ _, RI.nil _ _⟩
          refine (implRunCache_any n (.agg #[.int .i64 1, .int .i64 k, .slice none 0 0, .slice none 0 0, .int .i64 0]) (.slice ra l.length rc) (newC 1 k) l Wi hrc0 rr).mono ?_
          rw [HZ.out.1, HZ.out.2.1, HZ.out.2.2]
          rintro e wj ⟨_, _, _, rfl, rfl, rfl, re, kl⟩
          obtain ⟨ea, en, ec, ga2, gn2, gc2, rfl⟩ := re.shape
          have rp : RI No wj (.slice ea en ec) z.pages := by
            obtain ⟨_, _, he, h1, _⟩ := re.readNo
            simp only [Value.agg.injEq, Array.mk.injEq, List.cons.injEq, and_true, true_and] at he
            rw [he.1]
            exact h1
          have be := Box.new wj (.int .i64 z.pol) (.int .i64 z.size) (.slice ea en ec) (.slice ga2 gn2 gc2) (.int .i64 z.hand) 34
          have km := kl.keep ((Chg.refl No wj).alloc (.cells #[.int .i64 z.pol, .int .i64 z.size, .slice ea en ec, .slice ga2 gn2 gc2, .int .i64 z.hand] 34))
          replace rp := rp.keep ((Chg.refl No wj).alloc (.cells #[.int .i64 z.pol, .int .i64 z.size, .slice ea en ec, .slice ga2 gn2 gc2, .int .i64 z.hand] 34))
          replace kk := kk.keep km
          replace rC := rC.keep km
          replace rV := rV.keep km
          replace rO := rO.keep km
          replace rF := rF.keep km
          clear re rr kl km hrc0
          go_wp2_with fail
          refine (q5.out _ rC).mono ?_
          rintro e _ ⟨rfl, rfl⟩
          go_wp2_with fail
          rw [hVl] at rV
          refine (vInts_same No No _ _ V _ rF rV).mono ?_
          rintro e wk ⟨_, rfl, rfl, kn2⟩
          replace be := be.keep kn2
          replace rp := rp.keep kn2
          replace kk := kk.keep kn2
          replace rV := rV.keep kn2
          replace rO := rO.keep kn2
          clear rF rC kn2 q5
          have hen : en = z.pages.length := by
            obtain ⟨_, _, he, _⟩ := id rp
            simp only [Value.slice.injEq] at he
            exact he.2.1
          subst hen
          obtain ⟨vb, vo, rfl, _, hvb, hvc⟩ := rV.cellAt (by intro e; rw [e] at hVl; simp at hVl)
          have hvk := hvc kn (by omega)
          rw [HMM.out] at hvk
          obtain ⟨ox, hox, rox⟩ := rO.upto z.pages.length _ rfl hzl
          rw [HZT.out] at rox
          obtain ⟨c0, c1', c2', c3, c4, fr⟩ := id be
          clear hvc rV
          go_wp2_with fail
          go_quiet ((go_at_call 14; exact qt_quiet (vInts_qt No No _ _ _ _ (rp.keep ((Chg.refl No wk).drewN _)) (rox.keep ((Chg.refl No wk).drewN _)))))
          go_wp2_with fail
          go_ret
          exact ⟨rfl, kk.drewN _⟩
end Go.Proofs.Ytfdmghohmohmpaa
