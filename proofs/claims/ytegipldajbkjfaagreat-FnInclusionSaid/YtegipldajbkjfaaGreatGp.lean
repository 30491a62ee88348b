import Derived.Test.YtegipldajbkjfaaGreatGo
/- InclusionBreak of the reference, and the law -/
namespace Go.Proofs.YtegipldajbkjfaaGreat
open Go.RowKit

set_option maxRecDepth 100000 in
set_option maxHeartbeats 2000000 in
theorem specInclusionBreak_any (n p k : Int) (v : Value) (l : List Int) (w : World) (hv : RI No w v l) :
    Calls Tryz.prog 35 #[.int .i64 n, .int .i64 p, .int .i64 k, v] w (Ret2 fun v0 v1 w' => v0 = .int .i64 (idxOr0 (inclV n p k l)) ∧ v1 = .bool (inclV n p k l).isSome ∧ Chg No w w') := by
  cases hh : askedB n p k l
  · have HA : Hid (inclV n p k l = none) := Lib.hid (by unfold inclV; rw [hh]; rfl)
    have HH := Lib.hid hh
    clear hh
    go_enter Tryz.func35, Tryz.ntmps35
    go_wp2_with fail
    refine (l4Asked_any No _ l n p k w hv).mono ?_
    rintro e w1 ⟨rfl, rfl⟩
    have k1 := Chg.refl No w
    rw [show (inB p 1 7 && inB k 1 6 && (inB n 1 8 && decide (l.length ≤ 60) && belowB n l)) = false from HH.out]
    go_wp2_with fail
    go_ret2
    exact ⟨_, _, rfl, by rw [HA.out]; rfl, by rw [HA.out]; rfl, k1⟩
  · cases h6 : (k == 6)
    · have HA : Hid (inclV n p k l = firstN (inclTo p k l) l.length) := Lib.hid (by unfold inclV; rw [hh, h6]; rfl)
      have hok1 := asked_next hh h6
      have hok := askedB_ok hh
      have hkb : 1 ≤ k ∧ k ≤ 6 := by
        simp only [askedB, Bool.and_eq_true, inB_iff] at hh
        exact hh.1.2
      have hl60 : l.length ≤ 1000000 := by
        simp only [askedB, Bool.and_eq_true, decide_eq_true_eq] at hh
        omega
      have HH := Lib.hid hh
      obtain ⟨va, vc, rfl, _⟩ := id hv
      obtain ⟨hk1, hk6⟩ := hkb
      have hwk : IntKind.i64.wrap (k + 1) = k + 1 := IntWalk.i64_in _ (by omega)
      clear hh
      go_enter Tryz.func35, Tryz.ntmps35
      go_wp2_with fail
      refine (l4Asked_any No _ l n p k w hv).mono ?_
      rintro e w1 ⟨rfl, rfl⟩
      have k1 := Chg.refl No w
      rw [show (inB p 1 7 && inB k 1 6 && (inB n 1 8 && decide (l.length ≤ 60) && belowB n l)) = true from HH.out]
      go_wp2_with fail
      refine (l4Pages_any No p k _ l w hv hok hl60).mono ?_
      rintro e w2 ⟨vs, rfl, ⟨Fs, os⟩, k2⟩
      have hs := os.readNo
      obtain ⟨sa, sc, rfl, hsc1, hsc2, sview⟩ := hs.view
      rw [pagesTo_len] at *
      have SV := Lib.hid sview
      clear sview
      go_wp2_with fail
      refine (l4Pages_any No p (k + 1) _ l w2 (hv.keep k2) hok1 hl60).mono ?_
      rintro e w3 ⟨vg, rfl, ⟨Fg, og⟩, k3⟩
      have hg := og.readNo
      obtain ⟨ga, gc, rfl, hgc1, hgc2, gview⟩ := hg.view
      rw [pagesTo_len] at *
      have GV := Lib.hid gview
      clear gview og os hg hs
      go_wp2_with fail
      go_loopw [12] (fun i wr => ∃ j : Nat, j ≤ l.length ∧ i = .int .i64 j ∧ NoneTo (inclTo p k l) j ∧ Chg No w3 wr) (fun i _ => l.length - (intOf i).toNat)
      case atStart => exact ⟨0, Nat.zero_le _, rfl, NoneTo.zero _, Chg.refl _ _⟩
      case round =>
        obtain ⟨j, hj, rfl, hno, hch⟩ := hrel
        have hj0 : (0 : Int) ≤ (j : Int) := Int.natCast_nonneg _
        by_cases hlt : j < l.length
        · obtain ⟨b, off, x, rfl, _, hb, hcell, hx⟩ := SV.out j hlt
          obtain ⟨b', off', x', rfl, _, hb', hcell', hx'⟩ := GV.out j hlt
          have k3w := k3.keep hch
          have hcl := (k3w.cellD b (off + j) hb (fun e => e)).trans hcell
          have hcl' := (hch.cellD b' (off' + j) hb' (fun e => e)).trans hcell'
          have hx1 := hx.keep k3w
          have hx1' := hx'.keep hch
          obtain ⟨xa, xn, xc, rfl⟩ := hx.shape
          obtain ⟨xa', xn', xc', rfl⟩ := hx'.shape
          have hj1 : (j : Int) < (l.length : Int) := by omega
          have hw1 : IntKind.i64.wrap ((j : Int) + 1) = (j : Int) + 1 := IntWalk.i64_in _ (by omega)
          obtain ⟨la, hla⟩ : ∃ la, (pagesTo (newC p k) l l.length).getD j [] = la := ⟨_, rfl⟩
          obtain ⟨lb, hlb⟩ : ∃ lb, (pagesTo (newC p (k + 1)) l l.length).getD j [] = lb := ⟨_, rfl⟩
          have HG : Hid ((!partB la lb) = inclTo p k l j) := Lib.hid (by unfold inclTo; rw [hla, hlb])
          rw [hla] at hx1
          rw [hlb] at hx1'
          clear hcell hcell' hx hx' hla hlb
          go_wp2_with fail
          go_quiet ((go_at_call 94; exact quiet_sym (l4Part_any No _ _ _ _ _ (hx1.keep ((Chg.refl No wr).drewN _)) (hx1'.keep ((Chg.refl No wr).drewN _)))))
          have k4 := (Chg.refl No wr).drewN nq
          rw [HG.out]
          cases hin : inclTo p k l j
          · have HIN := Lib.hid hin
            clear hin
            go_wp2_with fail
            go_round
            case rel => exact ⟨j + 1, hlt, by go_num, hno.succ HIN.out, hch.keep k4⟩
            case measure => simp [intOf]; omega
          · have HIN := Lib.hid hin
            clear hin
            go_wp2_with fail
            go_ret2
            have e := firstN_hit (n := l.length) hno hlt HIN.out
            exact ⟨_, _, rfl, by rw [HA.out, e]; rfl, by rw [HA.out, e]; rfl, ((k1.keep k2).keep (k3.keep hch)).keep k4⟩
        · have hj' : j = l.length := by omega
          subst hj'
          go_wp2_with fail
          go_ret2
          have e := firstN_none (n := l.length) hno
          exact ⟨_, _, rfl, by rw [HA.out, e]; rfl, by rw [HA.out, e]; rfl, (k1.keep k2).keep (k3.keep hch)⟩
    · have HA : Hid (inclV n p k l = none) := Lib.hid (by unfold inclV; rw [hh, h6]; rfl)
      have HH := Lib.hid hh
      clear hh
      go_enter Tryz.func35, Tryz.ntmps35
      go_wp2_with fail
      refine (l4Asked_any No _ l n p k w hv).mono ?_
      rintro e w1 ⟨rfl, rfl⟩
      have k1 := Chg.refl No w
      rw [show (inB p 1 7 && inB k 1 6 && (inB n 1 8 && decide (l.length ≤ 60) && belowB n l)) = true from HH.out]
      go_wp2_with fail
      go_ret2
      exact ⟨_, _, rfl, by rw [HA.out]; rfl, by rw [HA.out]; rfl, k1⟩
end Go.Proofs.YtegipldajbkjfaaGreat
