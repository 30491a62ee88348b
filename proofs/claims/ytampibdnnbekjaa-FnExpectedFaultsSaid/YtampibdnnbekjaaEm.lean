import Derived.Test.YtampibdnnbekjaaEl
/- the law of drawing sequences of two items: the walk -/
namespace Go.Proofs.Ytampibdnnbekjaa
open Go.RowKit

theorem asked_two {n p k : Int} {i j : Nat} (h : askedB n p k [] = true) (hi : (i : Int) < n) (hj : (j : Int) < n) : askedB n p k [(i : Int), (j : Int)] = true := by
  simp only [askedB, Bool.and_eq_true] at h ⊢
  refine ⟨h.1, ⟨h.2.1.1, decide_eq_true (by simp)⟩, ?_⟩
  simp only [belowB, List.all_cons, List.all_nil, Bool.and_true, Bool.and_eq_true, inB_iff]
  omega
set_option maxRecDepth 100000 in
set_option maxHeartbeats 8000000 in
theorem law_ExpectedFaults (v : Value) (N : Nat) (w : World) (h : Code w v N) :
    Calls Try.prog 4 #[v] w fun e w' => e = .returned (.bool true) ∧ Chg No w w' := by
  obtain ⟨a, cp, rfl⟩ := h.shape
  go_enter Try.func4, Try.ntmps4
  go_wp2_with fail
  refine (vBig_any _ _ _ h).mono ?_
  rintro e w' ⟨rfl, rfl⟩
  by_cases hbig : (65536 : Int) < (N : Int)
  · go_wp2_with fail
    go_ret
    exact ⟨rfl, Chg.refl No _⟩
  · rw [show decide ((65536 : Int) < (N : Int)) = false from decide_eq_false hbig]
    go_wp2_with fail
    refine (DrawExpected_any _ _ _ h (by omega)).mono ?_
    rintro e w1 ⟨⟨n, p, k, wv, ws, L, rfl, ol⟩, kk⟩
    have rr := ol.readNo
    clear ol
    obtain ⟨r, hr⟩ : ∃ r, expV n p k ws L = r := ⟨_, rfl⟩
    go_wp2_with fail
    refine (implExpected_any n p k L wv ws w1 rr).mono ?_
    rw [hr]
    rintro e w2 ⟨_, _, rfl, rfl, rfl, k2⟩
    replace rr := rr.keep k2
    replace kk := kk.keep k2
    have b1 := BoxN.new w2 #[.int .i64 r.num, .int .i64 r.den] 24
    have q2 := (Chg.refl No w2).alloc (.cells #[.int .i64 r.num, .int .i64 r.den] 24)
    replace rr := rr.keep q2
    replace kk := kk.keep q2
    go_wp2_with fail
    generalize (w2.alloc (.cells #[.int .i64 r.num, .int .i64 r.den] 24)) = w3 at b1 q2 rr kk ⊢
    refine (specExpected_any n p k L wv ws w3 rr).mono ?_
    rw [hr]
    rintro e w4 ⟨_, _, rfl, rfl, rfl, k4⟩
    replace rr := rr.keep k4
    replace kk := kk.keep k4
    replace b1 := b1.keep k4
    have b2 := BoxN.new w4 #[.int .i64 r.num, .int .i64 r.den] 24
    have q4 := (Chg.refl No w4).alloc (.cells #[.int .i64 r.num, .int .i64 r.den] 24)
    replace rr := rr.keep q4
    replace kk := kk.keep q4
    replace b1 := b1.keep q4
    have HR := Lib.hid hr
    clear hr
    have c00 := b1.c 0 _ rfl
    have c01 := b1.c 1 _ rfl
    have c10 := b2.c 0 _ rfl
    have c11 := b2.c 1 _ rfl
    cases hok : r.ok
    · go_wp2_with fail
      go_ret
      exact ⟨rfl, kk⟩
    · have hE := expV_ok (by rw [HR.out]; exact hok)
      simp only [expB, Bool.and_eq_true, decide_eq_true_eq] at hE
      obtain ⟨⟨⟨⟨hA, hl⟩, hg⟩, hs⟩, hi⟩ := hE
      subst hl
      have hn := asked_items hA
      have hn8 : ws.length ≤ 8 := by omega
      have hsr := inB_iff.1 hs
      have hE2 : expB (ws.length : Int) p k ws 2 = true := by
        rw [expB, hA, hg, hs]; simp; decide
      have hE1 : expB (ws.length : Int) p k ws 1 = true := by
        rw [expB, hA, hg, hs]; simp; decide
      have V1 : expV (ws.length : Int) p k ws 1 = ⟨1, 1, true⟩ := by
        rw [expV_yes hE1]
        show mkFr (drawnC ws (sumW ws) 1 (newC p k)) (sumW ws ^ 1) = _
        rw [drawn_one, Int.pow_succ, Int.pow_zero, Int.one_mul]
        exact mkFr_one ⟨hsr.1, by omega⟩
      have V2 : expV (ws.length : Int) p k ws 2 = mkFr (drawnC ws (sumW ws) 2 (newC p k)) (sumW ws ^ 2) := expV_yes hE2
      have hd2 := sum_drawn ws (by omega) 2 (newC p k)
      rw [show sumTo (fun a => ws.getD a 0) ws.length = sumW ws from rfl, show ws.length ^ 2 = ws.length * ws.length from Nat.pow_two _] at hd2
      have hdb := drawnC_bound hn8 (wgB_mem hg) (W := sumW ws) (fun j hj => pow_bound ⟨by omega, hsr.2⟩ hj) 2 (by omega) (newC p k)
      have hb2 : bB 2 = 52560000 := rfl
      rw [hb2] at hdb
      have hW2 : sumW ws ^ 2 = sumW ws * sumW ws := by rw [Int.pow_succ, Int.pow_succ, Int.pow_zero, Int.one_mul]
      have hW1 := pow_pos1 hsr.1 2
      have hW3 := pow_bound (b := sumW ws) ⟨by omega, hsr.2⟩ (j := 2) (by omega)
      have hfr := mkFr_yes (a := drawnC ws (sumW ws) 2 (newC p k)) (b := sumW ws ^ 2) ⟨hdb.1, by omega⟩ ⟨hW1, by omega⟩
      have hgb := fun t => gAdd_bound (wgB_mem hg) ws.length 2 (newC p k) t (by omega)
      have h9 := wgB_mem hg
      have HS := Lib.hid (wgB_sum hg hn8)
      obtain ⟨x2, hx2⟩ : ∃ x, mkFr (drawnC ws (sumW ws) 2 (newC p k)) (sumW ws ^ 2) = x := ⟨_, rfl⟩
      obtain ⟨d2, hdd⟩ : ∃ d, drawnC ws (sumW ws) 2 (newC p k) = d := ⟨_, rfl⟩
      obtain ⟨W, hWW⟩ : ∃ W, sumW ws = W := ⟨_, rfl⟩
      rw [hx2] at V2 hfr
      rw [hdd] at hd2 hdb hfr
      rw [hWW] at hW2 hW1 hW3 hsr hfr
      rw [hW2] at hfr hW1 hW3
      have HV1 := Lib.hid V1
      have HV2 := Lib.hid V2
      have HD2 := Lib.hid hd2
      have HA := Lib.hid hA
      have HG := Lib.hid hgb
      clear V1 V2 hd2 hA hg hs hi hE1 hE2 hdd hx2 hW2 hb2 hgb
      obtain ⟨a2, cap2, rfl, hcap, hmax, hle, _, hc⟩ := id rr
      go_wp2_with fail
      clear c00 c01 c10 c11
      generalize (w4.alloc (.cells #[.int .i64 r.num, .int .i64 r.den] 24)) = w5 at b1 b2 q4 rr kk hc ⊢
      refine (vSumW_any No _ ws w5 rr HS.out).mono ?_
      rintro e w6 ⟨rfl, rfl⟩
      rw [hWW]
      go_wp2_with fail
      go_loopw [12, 14] (fun s i wr => ∃ m : Nat, m ≤ ws.length ∧ i = .int .i64 m ∧ s = .int .i64 (sumTo (gAdd ws ws.length 2 (newC p k)) (m * ws.length)) ∧ Chg No w5 wr) (fun _ i _ => ws.length - (intOf i).toNat)
      case atStart => exact ⟨0, Nat.zero_le _, rfl, by rw [Nat.zero_mul]; rfl, Chg.refl _ _⟩
      case round =>
        obtain ⟨m, hm, rfl, rfl, hch⟩ := hrel
        have hm0 : (0 : Int) ≤ (m : Int) := Int.natCast_nonneg _
        by_cases hlt : m < ws.length
        · have hm1 : (m : Int) < (ws.length : Int) := by omega
          have hw1 : IntKind.i64.wrap ((m : Int) + 1) = (m : Int) + 1 := IntWalk.i64_in _ (by omega)
          go_wp2_with fail
          go_loopw [12, 15] (fun s i wi => ∃ j : Nat, j ≤ ws.length ∧ i = .int .i64 j ∧ s = .int .i64 (sumTo (gAdd ws ws.length 2 (newC p k)) (m * ws.length + j)) ∧ Chg No w5 wi) (fun _ i _ => ws.length - (intOf i).toNat)
          case atStart => exact ⟨0, Nat.zero_le _, rfl, rfl, hch⟩
          case round =>
            obtain ⟨j, hj, rfl, rfl, hci⟩ := hrel
            have hj0 : (0 : Int) ≤ (j : Int) := Int.natCast_nonneg _
            by_cases hjt : j < ws.length
            · have hj1 : (j : Int) < (ws.length : Int) := by omega
              have hwj : IntKind.i64.wrap ((j : Int) + 1) = (j : Int) + 1 := IntWalk.i64_in _ (by omega)
              have hA2 := Lib.hid (asked_two HA.out hm1 hj1)
              obtain ⟨b, off, rfl, _, hb, hcell⟩ := hc (by intro e; simp [e] at hlt)
              have hx1 := hcell m hlt
              have hx2 := hcell j hjt
              have hgt := gAdd_two (newC p k) hlt hjt
              have hg := HG.out (m * ws.length + j)
              have hpl := places_nf [(m : Int), (j : Int)] (newC p k)
              have hnf := nfC_le [(m : Int), (j : Int)] (newC p k)
              have hle2 : m * ws.length + j + 1 ≤ ws.length ^ 2 := by
                have := Nat.mul_le_mul_right ws.length (show m + 1 ≤ ws.length from hlt)
                rw [Nat.add_mul, Nat.one_mul] at this
                rw [Nat.pow_two]
                omega
              have hs1 := sum_gAdd h9 (newC p k) (show 1 ≤ ws.length by omega) hn8 (L := 2) (by omega) (m * ws.length + j) (by omega)
              have hs2 := sum_gAdd h9 (newC p k) (show 1 ≤ ws.length by omega) hn8 (L := 2) (by omega) (m * ws.length + j + 1) hle2
              have hss : sumTo (gAdd ws ws.length 2 (newC p k)) (m * ws.length + j + 1) = sumTo (gAdd ws ws.length 2 (newC p k)) (m * ws.length + j) + gAdd ws ws.length 2 (newC p k) (m * ws.length + j) := rfl
              have hy1 := h9 _ (getD_mem hlt)
              have hy2 := h9 _ (getD_mem hjt)
              obtain ⟨S, hS⟩ : ∃ S, sumTo (gAdd ws ws.length 2 (newC p k)) (m * ws.length + j) = S := ⟨_, rfl⟩
              obtain ⟨x, hx⟩ : ∃ x, ws.getD m 0 = x := ⟨_, rfl⟩
              obtain ⟨y, hy⟩ : ∃ y, ws.getD j 0 = y := ⟨_, rfl⟩
              obtain ⟨c, hcc⟩ : ∃ c, nfC (newC p k) [(m : Int), (j : Int)] = c := ⟨_, rfl⟩
              rw [hx] at hx1 hgt hy1
              rw [hy] at hx2 hgt hy2
              rw [hcc] at hgt hpl hnf
              rw [hgt] at hg hss
              rw [hss] at hs2
              rw [hS] at hs1 hs2 hss ⊢
              have hxy : 0 ≤ x * y ∧ x * y ≤ 81 := ⟨Int.mul_nonneg hy1.1 hy2.1, Int.le_trans (Int.mul_le_mul_of_nonneg_right hy1.2 hy2.1) (by omega)⟩
              have hwa : IntKind.i64.wrap (x * y) = x * y := IntWalk.i64_in _ (by omega)
              have hwb : IntKind.i64.wrap (x * y * (c : Int)) = x * y * (c : Int) := IntWalk.i64_in _ (by omega)
              have hwc : IntKind.i64.wrap (S + x * y * (c : Int)) = S + x * y * (c : Int) := IntWalk.i64_in _ (by omega)
              have HSS := Lib.hid hss
              have rl := RI.lit No wr [(m : Int), (j : Int)] #[.int .i64 (m : Int), .int .i64 (j : Int)] 3 wr.heap.size 2 2 rfl rfl rfl (by omega) (fun e => e) (by simp)
              clear hS hx hy hcc hgt hss hle2 hcell hc
              go_wp2_with fail
              refine (implFaultPlaces_any No _ p k _ [(m : Int), (j : Int)] _ rl).mono ?_
              rintro e w7 ⟨pv, _, rfl, rfl, op, k7⟩
              rw [hA2.out, if_pos rfl] at op
              rw [hA2.out]
              obtain ⟨pa, pc, rfl, _⟩ := op.view
              rw [hpl]
              have kk7 : Chg No w5 w7 := (hci.alloc _).keep k7
              have g1 := (kk7.cellD b (off + m) hb (fun e => e)).trans hx1
              have g2 := (kk7.cellD b (off + j) hb (fun e => e)).trans hx2
              clear op rl hx1 hx2 hpl
              go_wp2_with fail
              go_quiet (fail)
              have kk8 := kk7.drewN nq
              generalize w7.drewN nq = w8 at kk8 ⊢
              go_wp2_with fail
              go_round
              case rel => exact ⟨j + 1, hjt, by go_num, by rw [← Nat.add_assoc, HSS.out], kk8⟩
              case measure => simp [intOf]; omega
            · have hjl : j = ws.length := by omega
              subst hjl
              go_wp2_with fail
              go_round
              case rel => exact ⟨m + 1, hlt, by go_num, by rw [Nat.add_mul, Nat.one_mul], hci⟩
              case measure => simp [intOf]; omega
        · have hml : m = ws.length := by omega
          subst hml
          rw [HD2.out]
          clear hc b1 b2
          obtain ⟨f1, f2, f3, f4, f5, f6⟩ := hfr
          go_wp2_with fail
          refine (implExpected_any (ws.length : Int) p k 2 _ ws wr (rr.keep hch)).mono ?_
          rw [HV2.out]
          rintro e w7 ⟨_, _, rfl, rfl, rfl, k7⟩
          rw [f1]
          have kk7 := hch.keep k7
          have b1 := BoxN.new w7 #[.int .i64 x2.num, .int .i64 x2.den] 24
          have q7 := (Chg.refl No w7).alloc (.cells #[.int .i64 x2.num, .int .i64 x2.den] 24)
          go_wp2_with fail
          generalize (w7.alloc (.cells #[.int .i64 x2.num, .int .i64 x2.den] 24)) = w8 at b1 q7 ⊢
          have kk8 := kk7.keep q7
          refine (implExpected_any (ws.length : Int) p k 1 _ ws w8 (rr.keep kk8)).mono ?_
          rw [HV1.out]
          rintro e w9 ⟨_, _, rfl, rfl, rfl, k9⟩
          have kk9 := kk8.keep k9
          have b2 := BoxN.new w9 #[.int .i64 1, .int .i64 1] 24
          have b1 := (b1.keep k9).keep ((Chg.refl No w9).alloc (.cells #[.int .i64 1, .int .i64 1] 24))
          have kk10 := kk9.alloc (.cells #[.int .i64 1, .int .i64 1] 24)
          have c00 := b1.c 0 _ rfl
          have c01 := b1.c 1 _ rfl
          have c10 := b2.c 0 _ rfl
          have c11 := b2.c 1 _ rfl
          have hx0 : 0 ≤ x2.num * W ∧ x2.num * W ≤ 525600000 := ⟨Int.mul_nonneg f3 (by omega), Int.le_trans (Int.mul_le_mul_of_nonneg_left hsr.2 f3) (by omega)⟩
          have hx1 : 0 ≤ x2.num * W * W ∧ x2.num * W * W ≤ 5256000000 := ⟨Int.mul_nonneg hx0.1 (by omega), Int.le_trans (Int.mul_le_mul_of_nonneg_left hsr.2 hx0.1) (by omega)⟩
          have hx2 : 0 ≤ d2 * x2.den ∧ d2 * x2.den ≤ 525600000000 := ⟨Int.mul_nonneg hdb.1 (by omega), Int.le_trans (Int.mul_le_mul_of_nonneg_left (show x2.den ≤ 10000 by omega) hdb.1) (by omega)⟩
          have e1 : x2.num * W * W = d2 * x2.den := by rw [← f2, Int.mul_assoc]
          have hwa : IntKind.i64.wrap (x2.num * W) = x2.num * W := IntWalk.i64_in _ (by omega)
          have hwb : IntKind.i64.wrap (x2.num * W * W) = d2 * x2.den := by rw [← e1]; exact IntWalk.i64_in _ (by omega)
          have hwc : IntKind.i64.wrap (d2 * x2.den) = d2 * x2.den := IntWalk.i64_in _ (by omega)
          clear f2 e1
          go_wp2_with fail
          go_ret
          exact ⟨rfl, kk.keep kk10⟩
end Go.Proofs.Ytampibdnnbekjaa
