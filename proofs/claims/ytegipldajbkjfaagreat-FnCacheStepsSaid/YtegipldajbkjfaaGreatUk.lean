import Derived.Test.YtegipldajbkjfaaGreatUj
import Derived.Test.YtegipldajbkjfaaGreatUa
/- FnCacheSteps: the law -/
namespace Go.Proofs.YtegipldajbkjfaaGreat
open Go.RowKit

set_option maxRecDepth 100000 in
set_option maxHeartbeats 4000000 in
theorem law_FnCacheSteps (v : Value) (N : Nat) (w : World) (h : Code w v N) :
    Calls Tryz.prog 3 #[v] w fun e w' => e = .returned (.bool true) ∧ Chg No w w' := by
  obtain ⟨a, cp, rfl⟩ := h.shape
  go_enter Tryz.func3, Tryz.ntmps3
  go_wp2_with fail
  refine (vBig_any _ _ _ h).mono ?_
  rintro e w' ⟨rfl, rfl⟩
  by_cases hbig : (65536 : Int) < (N : Int)
  · go_wp2_with fail
    go_ret
    exact ⟨rfl, Chg.refl No _⟩
  · go_wp2_with fail
    refine (DrawStep_any _ _ _ h (by omega)).mono ?_
    rintro e w1 ⟨n, x, cv, c, rfl, rco, k1⟩
    obtain ⟨pa, pn, pc, ma, mn, mc, rfl⟩ := rco.shape
    have rc := rco.readNo
    have bx := Box.new w1 (.int .i64 c.pol) (.int .i64 c.size) (.slice pa pn pc) (.slice ma mn mc) (.int .i64 c.hand) 26
    have k2 := (Chg.refl No w1).alloc (.cells #[.int .i64 c.pol, .int .i64 c.size, .slice pa pn pc, .slice ma mn mc, .int .i64 c.hand] 26)
    have rc := rc.keep k2
    have kk := k1.keep k2
    clear rco k1
    go_wp2_with fail
    generalize w1.alloc (.cells #[.int .i64 c.pol, .int .i64 c.size, .slice pa pn pc, .slice ma mn mc, .int .i64 c.hand] 26) = W1 at bx k2 rc kk ⊢
    generalize w1.heap.size = X at bx ⊢
    clear k2
    refine (implStepCache_any n x _ c W1 rc).mono ?_
    rintro e w2 ⟨_, _, rfl, rfl, ry, k2⟩
    obtain ⟨s, hs⟩ : ∃ s, stepV n c x = s := ⟨_, rfl⟩
    rw [hs] at ry
    obtain ⟨ya, yn, yc, za, zn, zc, rfl⟩ := ry.shape
    have ry := ry.readNo
    have bx := bx.keep k2
    have rc := rc.keep k2
    have kk := kk.keep k2
    have HS := Lib.hid hs
    clear hs k2
    have b1 := Box.new w2 (.int .i64 s.pol) (.int .i64 s.size) (.slice ya yn yc) (.slice za zn zc) (.int .i64 s.hand) 26
    have k2 := (Chg.refl No w2).alloc (.cells #[.int .i64 s.pol, .int .i64 s.size, .slice ya yn yc, .slice za zn zc, .int .i64 s.hand] 26)
    have rc := rc.keep k2
    have ry := ry.keep k2
    have bx := bx.keep k2
    have kk := kk.keep k2
    obtain ⟨c0, c1, c2, c3, c4, fr⟩ := id bx
    go_wp2_with fail
    clear c0 c1 c2 c3 c4 fr
    generalize w2.alloc (.cells #[.int .i64 s.pol, .int .i64 s.size, .slice ya yn yc, .slice za zn zc, .int .i64 s.hand] 26) = W2 at b1 k2 rc ry bx kk ⊢
    generalize w2.heap.size = Y at b1 ⊢
    clear k2
    refine (specStepCache_any n x _ c W2 rc).mono ?_
    rintro e w3 ⟨_, _, rfl, rfl, rt, k3⟩
    rw [HS.out] at rt
    obtain ⟨ta, tn, tc, ua, un, uc, rfl⟩ := rt.shape
    have rt := rt.readNo
    have bx := bx.keep k3
    have b1 := b1.keep k3
    have rc := rc.keep k3
    have ry := ry.keep k3
    have kk := kk.keep k3
    clear k3
    have b2 := Box.new w3 (.int .i64 s.pol) (.int .i64 s.size) (.slice ta tn tc) (.slice ua un uc) (.int .i64 s.hand) 26
    have k3 := (Chg.refl No w3).alloc (.cells #[.int .i64 s.pol, .int .i64 s.size, .slice ta tn tc, .slice ua un uc, .int .i64 s.hand] 26)
    have rc := rc.keep k3
    have ry := ry.keep k3
    have rt := rt.keep k3
    have bx := bx.keep k3
    have b1 := b1.keep k3
    have kk := kk.keep k3
    obtain ⟨c0, c1, c2, c3, c4, fr⟩ := id bx
    go_wp2_with fail
    clear c0 c1 c2 c3 c4 fr
    generalize w3.alloc (.cells #[.int .i64 s.pol, .int .i64 s.size, .slice ta tn tc, .slice ua un uc, .int .i64 s.hand] 26) = W3 at b1 b2 k3 rc ry rt bx kk ⊢
    generalize w3.heap.size = Z at b2 ⊢
    clear k3
    refine (implIsHit_any n x _ c W3 rc).mono ?_
    rintro e w4 ⟨_, _, rfl, rfl, rfl, k4⟩
    have bx := bx.keep k4
    have b1 := b1.keep k4
    have b2 := b2.keep k4
    have rc := rc.keep k4
    have ry := ry.keep k4
    have rt := rt.keep k4
    have kk := kk.keep k4
    obtain ⟨c0, c1, c2, c3, c4, fr⟩ := id bx
    go_wp2_with fail
    clear c0 c1 c2 c3 c4 fr
    refine (specIsHit_any n x _ c w4 rc).mono ?_
    rintro e w5 ⟨_, _, rfl, rfl, rfl, k5⟩
    have bx := bx.keep k5
    have b1 := b1.keep k5
    have b2 := b2.keep k5
    have rc := rc.keep k5
    have ry := ry.keep k5
    have rt := rt.keep k5
    have kk := kk.keep k5
    obtain ⟨c0, c1, c2, c3, c4, fr⟩ := id bx
    go_wp2_with fail
    clear c0 c1 c2 c3 c4 fr
    refine (implVictimsOf_any No n x _ c w5 rc).mono ?_
    obtain ⟨vl, hvl⟩ : ∃ vl, victV n c x = vl := ⟨_, rfl⟩
    rw [hvl]
    rintro e w6 ⟨ov, _, rfl, rfl, oo, k6⟩
    obtain ⟨oa, on, oc, rfl⟩ := oo.shape
    have bx := bx.keep k6
    have b1 := b1.keep k6
    have b2 := b2.keep k6
    have rc := rc.keep k6
    have ry := ry.keep k6
    have rt := rt.keep k6
    have kk := kk.keep k6
    obtain ⟨c0, c1, c2, c3, c4, fr⟩ := id bx
    go_wp2_with fail
    clear c0 c1 c2 c3 c4 fr
    refine (specVictimsOf_any No n x _ c w6 rc).mono ?_
    rw [hvl]
    rintro e w7 ⟨pv, _, rfl, rfl, op, k7⟩
    have oo := oo.keep k7
    have HV := Lib.hid hvl
    clear hvl
    have bx := bx.keep k7
    have b1 := b1.keep k7
    have b2 := b2.keep k7
    have rc := rc.keep k7
    have ry := ry.keep k7
    have rt := rt.keep k7
    have kk := kk.keep k7
    obtain ⟨d0, d1, d2, d3, d4, dr⟩ := id b1
    obtain ⟨e0, e1, e2, e3, e4, er⟩ := id b2
    go_wp2_with fail
    refine (vCache_same No No _ _ s w7 ry rt).mono ?_
    rintro e w8 ⟨_, rfl, rfl, k8⟩
    clear d0 d1 d2 d3 d4 dr e0 e1 e2 e3 e4 er
    have oo := oo.keep k8
    have bx := bx.keep k8
    have b1 := b1.keep k8
    have rc := rc.keep k8
    have ry := ry.keep k8
    have kk := kk.keep k8
    go_wp2_with fail
    refine (vInts_same No No _ _ vl w8 oo.readNo (op.keep k8).readNo).mono ?_
    rintro e w9 ⟨_, rfl, rfl, k9⟩
    have oo := oo.keep k9
    have bx := bx.keep k9
    have b1 := b1.keep k9
    have rc := rc.keep k9
    have ry := ry.keep k9
    have kk := kk.keep k9
    clear rt b2 op k4 k5 k6 k7 k8 k9
    cases hok : okB n c x
    · go_wp2_with fail
      go_ret
      exact ⟨rfl, kk⟩
    · have hg : goodC n c = true := by
        have := hok
        simp only [okB, Bool.and_eq_true] at this
        exact this.1
      have hx : 0 ≤ x ∧ x ≤ n - 1 := by
        have := hok
        simp only [okB, Bool.and_eq_true, inB_iff] at this
        exact this.2
      have hs : stepC c x = s := by rw [← HS.out, stepV, hok]; rfl
      have hv : victL c x = vl := by rw [← HV.out, victV, hok]; rfl
      have HG' : Hid (goodC n s = true) := Lib.hid (hs ▸ good_step hg hx)
      have HM : Hid (hasB s.pages x = true) := Lib.hid (hs ▸ hasB_true.2 (step_mem x (goodC_ok hg)).2)
      have HL : s.pages.length ≤ c.pages.length + 1 := hs ▸ step_len x
      have HO : Hid (∀ y ∈ c.pages, hasB vl y = !hasB s.pages y) := Lib.hid (fun y hy => by rw [← hs, ← hv]; exact vict_or hg y hy)
      have HI : Hid (hasB c.pages x = true → vl = []) := Lib.hid (fun e => by rw [← hv]; exact vict_hit e)
      have HOK := Lib.hid hok
      clear hs hv hg hx hok
      obtain ⟨d0, d1, d2, d3, d4, dr⟩ := id b1
      obtain ⟨c0, c1, c2, c3, c4, fr⟩ := id bx
      rw [show hitB n c x = hasB c.pages x by rw [hitB, HOK.out]; rfl]
      go_wp2_with fail
      refine (IsCache_any No n _ s w9 ry).mono ?_
      rintro e wa ⟨_, rfl, rfl, k10⟩
      rw [HG'.out]
      clear d0 d1 d2 d3 d4 dr c0 c1 c2 c3 c4 fr
      have oo := oo.keep k10
      have bx := bx.keep k10
      have b1 := b1.keep k10
      have kk := kk.keep k10
      have hpy : RI No wa (.slice ya yn yc) s.pages := by
        obtain ⟨_, _, he, h1, _⟩ := ry
        simp only [Value.agg.injEq, Array.mk.injEq, List.cons.injEq, and_true, true_and] at he
        rw [he.1]
        exact h1.keep k10
      have hpx : RI No wa (.slice pa pn pc) c.pages := by
        obtain ⟨_, _, he, h1, _⟩ := rc
        simp only [Value.agg.injEq, Array.mk.injEq, List.cons.injEq, and_true, true_and] at he
        rw [he.1]
        exact h1.keep k10
      have hro := oo.readNo
      clear rc ry
      obtain ⟨d0, d1, d2, d3, d4, dr⟩ := id b1
      obtain ⟨c0, c1, c2, c3, c4, fr⟩ := id bx
      have hpn := hpx.n.1
      have hyn := hpy.n.1
      have hln := hpx.len
      subst hpn
      subst hyn
      obtain ⟨_, _, he, hcap, hmax, _, _, hcell⟩ := id hpx
      simp only [Value.slice.injEq, true_and] at he
      obtain ⟨rfl, rfl⟩ := he
      have HC := Lib.hid hcell
      clear hcell
      cases hh : hasB c.pages x
      · go_wp2_with (first
          | (go_at_call 19; with_reducible refine (vHas_any No _ s.pages _ _ hpy).mono ?_; rintro e w' ⟨rfl, rfl⟩; rw [HM.out])
          | (go_at_call 19; with_reducible refine (vHas_any No _ c.pages _ _ hpx).mono ?_; rintro e w' ⟨rfl, rfl⟩; rw [hh]))
        clear c0 c1 c2 c3 c4 fr d0 d1 d2 d3 d4 dr
        go_loopw [18] (fun i wr => ∃ j : Nat, j ≤ c.pages.length ∧ i = .int .i64 j ∧ Chg No wa wr) (fun i _ => c.pages.length - (intOf i).toNat)
        case atStart => exact ⟨0, Nat.zero_le _, rfl, Chg.refl No wa⟩
        case round =>
          obtain ⟨j, hj, rfl, hch⟩ := hrel
          obtain ⟨c0, c1, c2, c3, c4, fr⟩ := bx.keep hch
          obtain ⟨d0, d1, d2, d3, d4, dr⟩ := b1.keep hch
          by_cases hlt : j < c.pages.length
          · obtain ⟨pb, po, rfl, _, hpb, hcl⟩ := HC.out (by intro e; rw [e] at hlt; exact absurd hlt (Nat.not_lt_zero _))
            have hc1 := (hch.cellD pb (po + j) hpb (fun e => e)).trans (hcl j hlt)
            clear hcl
            obtain ⟨y, hy⟩ : ∃ y, c.pages.getD j 0 = y := ⟨_, rfl⟩
            have hmem : y ∈ c.pages := by
              rw [← hy, List.getD_eq_getElem?_getD, List.getElem?_eq_getElem hlt]
              exact List.getElem_mem hlt
            have hoy := HO.out y hmem
            rw [hy] at hc1
            clear hy hmem
            obtain ⟨bb, hbb⟩ : ∃ bb, hasB s.pages y = bb := ⟨_, rfl⟩
            rw [hbb] at hoy
            have hbf : ((!bb) == bb) = false := by cases bb <;> rfl
            have v1 := Lib.hid (fun W (hW : Chg No wr W) => vHas_any No _ vl y W ((hro.keep hch).keep hW))
            have v2 := Lib.hid (fun W (hW : Chg No wr W) => vHas_any No _ s.pages y W ((hpy.keep hch).keep hW))
            rw [hoy] at v1
            rw [hbb] at v2
            clear hoy hbb
            have hj0 : (0 : Int) ≤ (j : Int) := Int.natCast_nonneg _
            have hj1 : (j : Int) < (c.pages.length : Int) := by omega
            have hw1 : IntKind.i64.wrap ((j : Int) + 1) = (j : Int) + 1 := IntWalk.i64_in _ (by omega)
            go_wp2_with fail
            go_quiet ((go_at_call 19; first | with_reducible exact quiet_sym (v1.out _ ((Chg.refl No wr).drewN _)) | with_reducible exact quiet_sym (v2.out _ ((Chg.refl No wr).drewN _))))
            have hd := (Chg.refl No wr).drewN nq
            have hch := hch.keep hd
            clear c0 c1 c2 c3 c4 fr d0 d1 d2 d3 d4 dr hc1
            generalize wr.drewN nq = W at hd hch ⊢
            go_wp2_with fail
            go_round
            case rel => exact ⟨j + 1, hlt, by go_num, hch⟩
            case measure => simp [intOf]; omega
          · have hj' : j = c.pages.length := by omega
            subst hj'
            have hw1 : IntKind.i64.wrap ((c.pages.length : Int) + 1) = (c.pages.length : Int) + 1 := IntWalk.i64_in _ (by omega)
            have hle : (s.pages.length : Int) ≤ (c.pages.length : Int) + 1 := by omega
            go_wp2_with fail
            go_ret
            exact ⟨ret_bool (by simp), kk.keep hch⟩
      · have hon : on = 0 := by
          have h1 := hro.n.1
          rw [HI.out hh] at h1
          exact h1
        subst hon
        go_wp2_with (first
          | (go_at_call 19; with_reducible refine (vHas_any No _ s.pages _ _ hpy).mono ?_; rintro e w' ⟨rfl, rfl⟩; rw [HM.out])
          | (go_at_call 19; with_reducible refine (vHas_any No _ c.pages _ _ hpx).mono ?_; rintro e w' ⟨rfl, rfl⟩; rw [hh]))
        clear c0 c1 c2 c3 c4 fr d0 d1 d2 d3 d4 dr
        go_loopw [18] (fun i wr => ∃ j : Nat, j ≤ c.pages.length ∧ i = .int .i64 j ∧ Chg No wa wr) (fun i _ => c.pages.length - (intOf i).toNat)
        case atStart => exact ⟨0, Nat.zero_le _, rfl, Chg.refl No wa⟩
        case round =>
          obtain ⟨j, hj, rfl, hch⟩ := hrel
          obtain ⟨c0, c1, c2, c3, c4, fr⟩ := bx.keep hch
          obtain ⟨d0, d1, d2, d3, d4, dr⟩ := b1.keep hch
          by_cases hlt : j < c.pages.length
          · obtain ⟨pb, po, rfl, _, hpb, hcl⟩ := HC.out (by intro e; rw [e] at hlt; exact absurd hlt (Nat.not_lt_zero _))
            have hc1 := (hch.cellD pb (po + j) hpb (fun e => e)).trans (hcl j hlt)
            clear hcl
            obtain ⟨y, hy⟩ : ∃ y, c.pages.getD j 0 = y := ⟨_, rfl⟩
            have hmem : y ∈ c.pages := by
              rw [← hy, List.getD_eq_getElem?_getD, List.getElem?_eq_getElem hlt]
              exact List.getElem_mem hlt
            have hoy := HO.out y hmem
            rw [hy] at hc1
            clear hy hmem
            obtain ⟨bb, hbb⟩ : ∃ bb, hasB s.pages y = bb := ⟨_, rfl⟩
            rw [hbb] at hoy
            have hbf : ((!bb) == bb) = false := by cases bb <;> rfl
            have v1 := Lib.hid (fun W (hW : Chg No wr W) => vHas_any No _ vl y W ((hro.keep hch).keep hW))
            have v2 := Lib.hid (fun W (hW : Chg No wr W) => vHas_any No _ s.pages y W ((hpy.keep hch).keep hW))
            rw [hoy] at v1
            rw [hbb] at v2
            clear hoy hbb
            have hj0 : (0 : Int) ≤ (j : Int) := Int.natCast_nonneg _
            have hj1 : (j : Int) < (c.pages.length : Int) := by omega
            have hw1 : IntKind.i64.wrap ((j : Int) + 1) = (j : Int) + 1 := IntWalk.i64_in _ (by omega)
            go_wp2_with fail
            go_quiet ((go_at_call 19; first | with_reducible exact quiet_sym (v1.out _ ((Chg.refl No wr).drewN _)) | with_reducible exact quiet_sym (v2.out _ ((Chg.refl No wr).drewN _))))
            have hd := (Chg.refl No wr).drewN nq
            have hch := hch.keep hd
            clear c0 c1 c2 c3 c4 fr d0 d1 d2 d3 d4 dr hc1
            generalize wr.drewN nq = W at hd hch ⊢
            go_wp2_with fail
            go_round
            case rel => exact ⟨j + 1, hlt, by go_num, hch⟩
            case measure => simp [intOf]; omega
          · have hj' : j = c.pages.length := by omega
            subst hj'
            have hw1 : IntKind.i64.wrap ((c.pages.length : Int) + 1) = (c.pages.length : Int) + 1 := IntWalk.i64_in _ (by omega)
            have hle : (s.pages.length : Int) ≤ (c.pages.length : Int) + 1 := by omega
            go_wp2_with fail
            go_ret
            exact ⟨ret_bool (by simp), kk.keep hch⟩
end Go.Proofs.YtegipldajbkjfaaGreat
