import Derived.Test.YtampibdnnbekjaaEb
import Derived.Test.YtampibdnnbekjaaH
/- the sum of the faults of all sequences, as the reference has it -/
namespace Go.Proofs.Ytampibdnnbekjaa
open Go.RowKit

set_option maxRecDepth 100000 in
set_option maxHeartbeats 4000000 in
theorem l11Drawn_any (ws : List Int) (wv : Value) (hn8 : ws.length ≤ 8) (h9 : wgB 0 ws = true) (hW0 : 0 ≤ sumW ws ∧ sumW ws ≤ 10) (L : Nat) : L ≤ 4 → ∀ (c : Ca) (v : Value) (w : World), Ok c → RC No w v c → RI No w wv ws →
    Calls Try.prog 19 #[v, wv, .int .i64 (L : Int)] w (Ret fun r w' => r = .int .i64 (drawnC ws (sumW ws) L c) ∧ Chg No w w') := by
  induction L with
  | zero =>
    intro _ c v w hok hv hw
    obtain ⟨pv, mv, rfl, hp, hmk⟩ := hv
    obtain ⟨pa, pn, pc, rfl⟩ := hp.shape
    obtain ⟨ma, mn, mc, rfl⟩ := hmk.shape
    obtain ⟨a, cap, rfl, _⟩ := id hw
    go_enter Try.func19, Try.ntmps19
    go_wp2_with fail
    go_ret
    exact ⟨_, rfl, rfl, (Chg.refl No w).alloc _⟩
  | succ L ih =>
    intro hL c v w hok hv hw
    have IH := Lib.hid (ih (by omega))
    clear ih
    obtain ⟨pv, mv, rfl, hp, hmk⟩ := hv
    obtain ⟨pa, pn, pc, rfl⟩ := hp.shape
    obtain ⟨ma, mn, mc, rfl⟩ := hmk.shape
    have hw0 := hw
    obtain ⟨a, cap, rfl, hcap, hmax, hle, _, hc⟩ := id hw
    have hpw := fun j hj => pow_bound hW0 (j := j) hj
    have hdb := drawnC_bound hn8 (wgB_mem h9) (W := sumW ws) hpw L (by omega)
    have hds := dPart_sum hn8 (wgB_mem h9) c (hpw L (by omega)) hdb
    have hdp := fun a => dPart_bound (ws := ws) c a (hpw L (by omega)) hdb
    have hbB := bB_le (L := L) (by omega)
    have hbB' := bB_le (L := L + 1) hL
    have hbn := bB_nonneg L
    have hpL := hpw L (by omega)
    have h9' := wgB_mem h9
    have hL0 : (0 : Int) ≤ (L : Int) := Int.natCast_nonneg _
    have hL1 : ((L + 1 : Nat) : Int) = (L : Int) + 1 := rfl
    have hne : ((L : Int) + 1 == 0) = false := by rw [beq_eq_false_iff_ne]; omega
    have hwL : IntKind.i64.wrap ((L : Int) + 1 - 1) = (L : Int) := by rw [show (L : Int) + 1 - 1 = (L : Int) by omega]; exact IntWalk.i64_in _ (by omega)
    have HD := Lib.hid hdb
    have HS := Lib.hid hds
    have HP := Lib.hid hdp
    have HSum := Lib.hid (wgB_sum h9 hn8)
    clear hdb hds hdp hpw
    rw [hL1]
    go_enter Try.func19, Try.ntmps19
    go_wp2_with fail
    go_loopw [7, 8] (fun z i wr => ∃ m : Nat, m ≤ ws.length ∧ i = .int .i64 m ∧ z = .int .i64 (sumTo (fun a => ws.getD a 0 * dPart ws (sumW ws) L c a) m) ∧
        Box wr w.heap.size (.int .i64 c.pol) (.int .i64 c.size) (.slice pa pn pc) (.slice ma mn mc) (.int .i64 c.hand) ∧ Chg No w wr) (fun _ i _ => ws.length - (intOf i).toNat)
    case atStart => exact ⟨0, Nat.zero_le _, rfl, rfl, Box.new w _ _ _ _ _ _, (Chg.refl No w).alloc _⟩
    case round =>
      obtain ⟨m, hm, rfl, rfl, hbox, hch⟩ := hrel
      have hm0 : (0 : Int) ≤ (m : Int) := Int.natCast_nonneg _
      by_cases hlt : m < ws.length
      · obtain ⟨b, off, rfl, _, hb, hcell⟩ := hc (by intro e; simp [e] at hlt)
        have hcl := (hch.cellD b (off + m) hb (fun e => e)).trans (hcell m hlt)
        have hx := h9' _ (getD_mem hlt)
        have hsn : sumTo (fun a => ws.getD a 0 * dPart ws (sumW ws) L c a) (m + 1) = sumTo (fun a => ws.getD a 0 * dPart ws (sumW ws) L c a) m + ws.getD m 0 * dPart ws (sumW ws) L c m := rfl
        have hs1 := HS.out m hm
        have hs2 := HS.out (m + 1) hlt
        have hpp := HP.out m
        have hdm : dPart ws (sumW ws) L c m = drawnC ws (sumW ws) L (stepC c (m : Int)) + if hasB c.pages (m : Int) then 0 else (sumW ws) ^ L := rfl
        have hd1 := HD.out (stepC c (m : Int))
        rw [hsn] at hs2
        obtain ⟨y, hy⟩ : ∃ y, sumTo (fun a => ws.getD a 0 * dPart ws (sumW ws) L c a) m = y := ⟨_, rfl⟩
        obtain ⟨x, hx'⟩ : ∃ x, ws.getD m 0 = x := ⟨_, rfl⟩
        obtain ⟨u, hu⟩ : ∃ u, dPart ws (sumW ws) L c m = u := ⟨_, rfl⟩
        obtain ⟨d, hd⟩ : ∃ d, drawnC ws (sumW ws) L (stepC c (m : Int)) = d := ⟨_, rfl⟩
        obtain ⟨P, hP⟩ : ∃ P, (sumW ws) ^ L = P := ⟨_, rfl⟩
        rw [hx'] at hcl hx hsn hs2
        rw [hy] at hs1 hs2 hsn ⊢
        rw [hu] at hs2 hsn hpp hdm
        rw [hd] at hdm hd1
        rw [hP] at hdm hpL
        have hm1 : (m : Int) < (ws.length : Int) := by omega
        have hw1 : IntKind.i64.wrap ((m : Int) + 1) = (m : Int) + 1 := IntWalk.i64_in _ (by omega)
        have HN := Lib.hid hsn
        have HDD := Lib.hid hd
        have HPP := Lib.hid hP
        clear hcell hc hsn hy hx' hu hd hP
        by_cases hx0 : 0 < x
        · have hxu : 0 ≤ x * u := Int.mul_nonneg hx.1 hpp.1
          have hw2 : IntKind.i64.wrap (x * u) = x * u := IntWalk.i64_in _ (by omega)
          have hw3 : IntKind.i64.wrap (y + x * u) = y + x * u := IntWalk.i64_in _ (by omega)
          obtain ⟨c0, c1, c2, c3, c4, fr⟩ := id hbox
          go_wp2_with fail
          refine (l4Step_any No _ c (m : Int) wr ⟨_, _, rfl, hp.keep hch, hmk.keep hch⟩ (Bd.no _) hok).mono ?_
          rintro e w1 ⟨v1, rfl, r1, k1⟩
          obtain ⟨pv1, mv1, rfl, rp, rm⟩ := id r1
          obtain ⟨pa1, pn1, pc1, rfl⟩ := rp.shape
          obtain ⟨ma1, mn1, mc1, rfl⟩ := rm.shape
          have kk := hch.keep k1
          clear c0 c1 c2 c3 c4 fr
          go_wp2_with fail
          refine (IH.out (stepC c (m : Int)) _ w1 (ok_step hok _) r1 (hw0.keep kk)).mono ?_
          rintro e w2 ⟨_, rfl, rfl, k2⟩
          rw [HDD.out]
          have kk2 := kk.keep k2
          have hb2 := (hbox.keep k1).keep k2
          have hcl2 := ((k1.keep k2).cellD b (off + m) (Nat.lt_of_lt_of_le hb hch.size) (fun e => e)).trans hcl
          obtain ⟨c0, c1, c2, c3, c4, fr⟩ := id hb2
          clear hcl hbox r1 rp rm
          go_wp2_with fail
          refine (l1Has_any No _ _ (m : Int) w2 (hp.keep kk2)).mono ?_
          rintro e w3 ⟨rfl, rfl⟩
          cases hh : hasB c.pages (m : Int)
          · rw [hh] at hdm
            have hdu : u = d + P := hdm
            subst hdu
            have hw4 : IntKind.i64.wrap (d + P) = d + P := IntWalk.i64_in _ (by omega)
            clear hdm
            go_wp2_with fail
            refine (l11Sum_any No _ ws w2 (hw0.keep kk2) HSum.out).mono ?_
            rintro e w4 ⟨rfl, rfl⟩
            go_wp2_with fail
            refine (l11Power_any (sumW ws) L w2 hW0 (by omega)).mono ?_
            rintro e w5 ⟨rfl, rfl⟩
            rw [HPP.out]
            go_wp2_with fail
            go_round
            case rel => exact ⟨m + 1, hlt, by go_num, by rw [HN.out], hb2, kk2⟩
            case measure => simp [intOf]; omega
          · rw [hh] at hdm
            have hdu : u = d := by rw [hdm]; simp
            have hw2' := hw2
            have hw3' := hw3
            rw [hdu] at hw2' hw3' HN
            clear hdm
            go_wp2_with fail
            go_round
            case rel => exact ⟨m + 1, hlt, by go_num, by rw [HN.out], hb2, kk2⟩
            case measure => simp [intOf]; omega
        · have hx1 : x = 0 := by omega
          subst hx1
          rw [Int.zero_mul, Int.add_zero] at HN
          go_wp2_with fail
          go_round
          case rel => exact ⟨m + 1, hlt, by go_num, by rw [HN.out], hbox, hch⟩
          case measure => simp [intOf]; omega
      · have hml : m = ws.length := by omega
        subst hml
        clear hc
        go_wp2_with fail
        go_ret
        exact ⟨_, rfl, rfl, hch⟩
end Go.Proofs.Ytampibdnnbekjaa
