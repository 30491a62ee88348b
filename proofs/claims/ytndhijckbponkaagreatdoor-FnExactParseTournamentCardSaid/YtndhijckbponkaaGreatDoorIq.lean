import Derived.Test.YtndhijckbponkaaGreatDoorIp
import Derived.Test.YtndhijckbponkaaGreatDoorIn
/- the law of ParseTournament returns true -/
namespace Go.Proofs.YtndhijckbponkaaGreatDoor
open Go.RowKit

set_option maxRecDepth 100000 in
set_option maxHeartbeats 2000000 in
theorem law_ParseTournament (s : List UInt8) (w : World) (hw : LayE w) :
    Calls Tryz.prog 4 #[.string ⟨s.toArray⟩] w fun e w' => e = .returned (.bool true) ∧ Chg No w w' := by
  by_cases hs : s.length ≤ 1048576
  · have q1 := Lib.hid (specParse_any s w hs)
    have q2 := Lib.hid (fun W (h : LayE W) => implParse_any s W hs h)
    have hsm : ((parT s).getD zeroT).ps.length ≤ 4 ∧ totPl ((parT s).getD zeroT).ps ≤ 100 ∧ ((parT s).getD zeroT).reqs.length ≤ 60 := by
      cases e : parT s with
      | none => simp [zeroT, totPl]
      | some t =>
        have ht := (parT_some.1 e).1
        exact ⟨(tour_len ht).1, tour_tot ht, (tour_req ht).2.1⟩
    obtain ⟨ok, hok⟩ : ∃ ok, (parT s).isSome = ok := ⟨_, rfl⟩
    obtain ⟨t, ht⟩ : ∃ t, (parT s).getD zeroT = t := ⟨_, rfl⟩
    rw [hok, ht] at q1 q2
    rw [ht] at hsm
    obtain ⟨hs1, hs2, hs3⟩ := hsm
    clear hok ht
    have hlen : ¬ (1048576 : Int) < (s.length : Int) := by omega
    obtain ⟨z, hz⟩ : ∃ z : Int, (1 : Int) + totPl t.ps + t.reqs.length = z := ⟨_, rfl⟩
    have HZ := Lib.hid hz
    have hz0 : ¬ z < 0 := by omega
    have hm1 : (1 : Int) + totPl t.ps ≤ 100000000 := by omega
    have hn6 : t.ps.length ≤ 1048576 := by omega
    have HLE := Lib.hid (fun W (h : Chg No w W) => hw.keep h)
    clear hz hw hs1 hs2 hs3
    go_enter Tryz.func4, Tryz.ntmps4
    go_wp2_with fail
    refine q1.out.mono ?_
    rintro e w1 ⟨v0, _, rfl, rfl, hA, k1⟩
    have hU := hA.u
    obtain ⟨pa, pn, pc, ra, rn, rc, rfl⟩ := hU.shape
    have b3 := Box3.new w1 (.int .i64 t.items) (.slice pa pn pc) (.slice ra rn rc) 31
    have ka := (Chg.refl No w1).alloc (.cells #[.int .i64 t.items, .slice pa pn pc, .slice ra rn rc] 31)
    have h01 := k1.size
    replace hU := hU.keep ka
    have kk := k1.trans ka
    clear hA k1 ka
    go_wp2_with fail
    obtain ⟨W1, hW1⟩ : ∃ W1, w1.alloc (.cells #[.int .i64 t.items, .slice pa pn pc, .slice ra rn rc] 31) = W1 := ⟨_, rfl⟩
    rw [hW1] at b3 hU kk ⊢
    clear hW1
    obtain ⟨B3, hB3⟩ : ∃ B3, w1.heap.size = B3 := ⟨_, rfl⟩
    rw [hB3] at b3 hU h01 ⊢
    clear hB3
    have hlo := b3.lt
    refine (q2.out W1 (HLE.out _ kk)).mono ?_
    rintro e w2 ⟨v0, _, rfl, rfl, hA, k2⟩
    have hV := hA.u
    obtain ⟨xa, xn, xc, ya, yn, yc, rfl⟩ := hV.shape
    have b5 := Box3.new w2 (.int .i64 t.items) (.slice xa xn xc) (.slice ya yn yc) 31
    have kb := (Chg.refl No w2).alloc (.cells #[.int .i64 t.items, .slice xa xn xc, .slice ya yn yc] 31)
    have h12 := k2.size
    have kc := k2.trans kb
    replace hV := hV.keep kb
    replace b3 := b3.keep kc
    replace hU := hU.keep kc
    replace kk := kk.trans kc
    clear hA k2 kb kc
    obtain ⟨c0, c1, c2, _⟩ := id b3
    obtain ⟨d0, d1, d2, _⟩ := id b5
    go_wp2_with fail
    obtain ⟨W2, hW2⟩ : ∃ W2, w2.alloc (.cells #[.int .i64 t.items, .slice xa xn xc, .slice ya yn yc] 31) = W2 := ⟨_, rfl⟩
    rw [hW2] at b3 b5 hU hV kk c0 c1 c2 d0 d1 d2 ⊢
    clear hW2
    obtain ⟨lo, hlo'⟩ : ∃ lo, W1.heap.size = lo := ⟨_, rfl⟩
    obtain ⟨hi, hhi'⟩ : ∃ hi, w2.heap.size = hi := ⟨_, rfl⟩
    rw [hlo'] at hV hlo h12
    rw [hhi'] at hV b5 h12 d0 d1 d2 ⊢
    clear hlo' hhi'
    refine (eqTournament_same _ _ t _ (hV.rt hn6) (hU.rt hn6)).mono ?_
    rintro e w3 ⟨_, rfl, rfl, k3⟩
    replace hV := hV.keep k3
    replace b3 := b3.keep k3
    replace b5 := b5.keep k3
    replace hU := hU.keep k3
    replace kk := kk.keep k3
    clear c0 c1 c2 d0 d1 d2
    obtain ⟨c0, c1, c2, _⟩ := id b3
    obtain ⟨d0, d1, d2, _⟩ := id b5
    go_wp2_with fail
    refine (markTAU_any lo hi _ t 1 w3 hV hn6 (by omega) hm1).mono ?_
    rintro e w4 ⟨_, rfl, rfl, hM, k4⟩
    rw [HZ.out]
    replace b3 := b3.step k4 (fun h => by omega)
    replace b5 := b5.step k4 (fun h => by omega)
    replace hU := hU.step k4 (fun q h1 h2 h3 => by omega)
    replace kk := kk.step k4 (fun q h1 h2 => by omega)
    clear c0 c1 c2 d0 d1 d2 hV
    obtain ⟨c0, c1, c2, _⟩ := id b3
    obtain ⟨d0, d1, d2, _⟩ := id b5
    go_wp2_with fail
    refine (heldTournament_any _ t 1 w4 hM (by omega) hm1).mono ?_
    rintro e w5 ⟨_, rfl, rfl, k5⟩
    rw [HZ.out]
    replace hM := hM.keep k5
    replace b3 := b3.keep k5
    replace b5 := b5.keep k5
    replace hU := hU.keep k5
    replace kk := kk.keep k5
    clear c0 c1 c2 d0 d1 d2
    obtain ⟨c0, c1, c2, _⟩ := id b3
    obtain ⟨d0, d1, d2, _⟩ := id b5
    go_wp2_with fail
    refine (q2.out w5 (HLE.out _ kk)).mono ?_
    rintro e w6 ⟨v0, _, rfl, rfl, hA, k6⟩
    have hX := hA.u
    obtain ⟨ua, un, uc, va, vn, vc, rfl⟩ := hX.shape
    have b9 := Box3.new w6 (.int .i64 t.items) (.slice ua un uc) (.slice va vn vc) 31
    have kb := k6.alloc (.cells #[.int .i64 t.items, .slice ua un uc, .slice va vn vc] 31)
    replace hX := hX.keep ((Chg.refl No w6).alloc (.cells #[.int .i64 t.items, .slice ua un uc, .slice va vn vc] 31))
    replace hM := hM.keep kb
    replace b3 := b3.keep kb
    replace b5 := b5.keep kb
    replace hU := hU.keep kb
    replace kk := kk.keep kb
    clear c0 c1 c2 d0 d1 d2
    obtain ⟨c0, c1, c2, _⟩ := id b3
    obtain ⟨d0, d1, d2, _⟩ := id b5
    obtain ⟨e0, e1, e2, _⟩ := id b9
    clear hA k6
    go_wp2_with fail
    refine (eqTournament_same _ _ t _ (hX.rt hn6) (hU.rt hn6)).mono ?_
    rintro e w7 ⟨_, rfl, rfl, k7⟩
    replace hM := hM.keep k7
    clear e0 e1 e2
    replace b3 := b3.keep k7
    replace b5 := b5.keep k7
    replace hU := hU.keep k7
    replace kk := kk.keep k7
    clear c0 c1 c2 d0 d1 d2
    obtain ⟨c0, c1, c2, _⟩ := id b3
    obtain ⟨d0, d1, d2, _⟩ := id b5
    go_wp2_with fail
    refine (heldTournament_any _ t 1 w7 hM (by omega) hm1).mono ?_
    rintro e w8 ⟨_, rfl, rfl, k8⟩
    rw [HZ.out]
    go_wp2_with fail
    go_ret
    exact ⟨rfl, kk.keep k8⟩
  · have hlen : (1048576 : Int) < (s.length : Int) := by omega
    clear hs hw
    go_enter Tryz.func4, Tryz.ntmps4
    go_wp2_with fail
    go_ret
    exact ⟨rfl, Chg.refl No w⟩
end Go.Proofs.YtndhijckbponkaaGreatDoor
