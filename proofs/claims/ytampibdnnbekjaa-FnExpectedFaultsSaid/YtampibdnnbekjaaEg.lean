import Derived.Test.YtampibdnnbekjaaEd
import Derived.Test.YtampibdnnbekjaaEf
import Derived.Test.YtampibdnnbekjaaHs
/- ExpectedFaults, both sides, and its law -/
namespace Go.Proofs.Ytampibdnnbekjaa
open Go.RowKit

/-- what is asked -/
def expB (n p k : Int) (ws : List Int) (L : Int) : Bool := askedB n p k [] && decide ((ws.length : Int) = n) && wgB 0 ws && inB (sumW ws) 1 10 && inB L 0 4
def expV (n p k : Int) (ws : List Int) (L : Int) : Fr := if expB n p k ws L then mkFr (drawnC ws (sumW ws) L.toNat (newC p k)) (sumW ws ^ L.toNat) else ⟨0, 0, false⟩
theorem expV_yes {n p k : Int} {ws : List Int} {L : Int} (h : expB n p k ws L = true) : expV n p k ws L = mkFr (drawnC ws (sumW ws) L.toNat (newC p k)) (sumW ws ^ L.toNat) := by rw [expV, h]; rfl
theorem expV_no {n p k : Int} {ws : List Int} {L : Int} (h : expB n p k ws L = false) : expV n p k ws L = ⟨0, 0, false⟩ := by rw [expV, h]; rfl
theorem asked_items {n p k : Int} {l : List Int} (h : askedB n p k l = true) : 1 ≤ n ∧ n ≤ 8 := by
  simp only [askedB, Bool.and_eq_true, inB_iff] at h
  exact h.2.1.1
theorem pow_pos1 {b : Int} (hb : 1 ≤ b) (L : Nat) : 1 ≤ b ^ L := by
  induction L with
  | zero => simp
  | succ L ih =>
    rw [Int.pow_succ]
    have := Int.mul_le_mul_of_nonneg_left hb (show (0 : Int) ≤ b ^ L by omega)
    omega

set_option maxRecDepth 100000 in
set_option maxHeartbeats 4000000 in
theorem specExpected_any (n p k L : Int) (v : Value) (ws : List Int) (w : World) (hv : RI No w v ws) :
    Calls Try.prog 5 #[.int .i64 n, .int .i64 p, .int .i64 k, v, .int .i64 L] w (Ret2 fun v0 v1 w' => v0 = .agg #[.int .i64 (expV n p k ws L).num, .int .i64 (expV n p k ws L).den] ∧ v1 = .bool (expV n p k ws L).ok ∧ Chg No w w') := by
  have b0 := BoxN.new w #[.int .i64 0, .int .i64 0] 24
  have kk := (Chg.refl No w).alloc (.cells #[.int .i64 0, .int .i64 0] 24)
  obtain ⟨a, cap, rfl, _⟩ := id hv
  have hL := hv.len
  replace b0 := b0.keep ((Chg.refl No _).alloc (.cells #[] 3))
  replace kk := kk.alloc (.cells #[] 3)
  have hv1 := hv.keep kk
  have hE := RI.empty No ((w.alloc (.cells #[.int .i64 0, .int .i64 0] 24)).alloc (.cells #[] 3)) (some ⟨w.heap.size + 1, 0, none⟩) 0 (by omega) (by simp)
  cases hA : askedB n p k []
  · have HV := Lib.hid (expV_no (n := n) (p := p) (k := k) (ws := ws) (L := L) (by rw [expB, hA]; rfl))
    have HA := Lib.hid hA
    clear hA
    go_enter Try.func5, Try.ntmps5
    go_wp2_with fail
    refine (l4Asked_any No _ [] n p k _ hE).mono ?_
    rintro e w1 ⟨rfl, rfl⟩
    rw [show (inB p 1 7 && inB k 1 6 && (inB n 1 8 && decide (([] : List Int).length ≤ 60) && belowB n [])) = false from HA.out]
    have c00 := b0.c 0 _ rfl
    have c01 := b0.c 1 _ rfl
    have f0 := b0.fr 0
    have f1 := b0.fr 1
    go_wp2_with fail
    exact bodyPost_ret (v := .tuple #[.agg #[.int .i64 0, .int .i64 0], .bool false]) (by simp [results, Try.results5, go_sem, *]) rfl ⟨_, _, rfl, by rw [HV.out], by rw [HV.out], by first | exact kk | exact (kk.setCell (fun h => absurd h (Nat.lt_irrefl _)) _).setCell (fun h => absurd h (Nat.lt_irrefl _)) _⟩
  · have hn := asked_items hA
    by_cases hl : (ws.length : Int) = n
    · subst hl
      cases hg : wgB 0 ws
      · have HV := Lib.hid (expV_no (n := (ws.length : Int)) (p := p) (k := k) (ws := ws) (L := L) (by rw [expB, hA, hg]; simp))
        have HA := Lib.hid hA
        have HG := Lib.hid hg
        clear hA hg
        go_enter Try.func5, Try.ntmps5
        go_wp2_with fail
        refine (l4Asked_any No _ [] _ p k _ hE).mono ?_
        rintro e w1 ⟨rfl, rfl⟩
        rw [show (inB p 1 7 && inB k 1 6 && (inB (ws.length : Int) 1 8 && decide (([] : List Int).length ≤ 60) && belowB (ws.length : Int) [])) = true from HA.out]
        go_wp2_with fail
        refine (l11Weights_any No _ ws 0 _ hv1).mono ?_
        rintro e w1 ⟨rfl, rfl⟩
        rw [HG.out]
        have c00 := b0.c 0 _ rfl
        have c01 := b0.c 1 _ rfl
        have f0 := b0.fr 0
        have f1 := b0.fr 1
        go_wp2_with fail
        exact bodyPost_ret (v := .tuple #[.agg #[.int .i64 0, .int .i64 0], .bool false]) (by simp [results, Try.results5, go_sem, *]) rfl ⟨_, _, rfl, by rw [HV.out], by rw [HV.out], by first | exact kk | exact (kk.setCell (fun h => absurd h (Nat.lt_irrefl _)) _).setCell (fun h => absurd h (Nat.lt_irrefl _)) _⟩
      · have hn8 : ws.length ≤ 8 := by omega
        have HS := Lib.hid (wgB_sum hg hn8)
        cases hs : inB (sumW ws) 1 10
        · have HV := Lib.hid (expV_no (n := (ws.length : Int)) (p := p) (k := k) (ws := ws) (L := L) (by rw [expB, hA, hg, hs]; simp))
          have HA := Lib.hid hA
          have HG := Lib.hid hg
          have HSS := Lib.hid hs
          clear hA hg hs
          go_enter Try.func5, Try.ntmps5
          go_wp2_with fail
          refine (l4Asked_any No _ [] _ p k _ hE).mono ?_
          rintro e w1 ⟨rfl, rfl⟩
          rw [show (inB p 1 7 && inB k 1 6 && (inB (ws.length : Int) 1 8 && decide (([] : List Int).length ≤ 60) && belowB (ws.length : Int) [])) = true from HA.out]
          go_wp2_with fail
          refine (l11Weights_any No _ ws 0 _ hv1).mono ?_
          rintro e w1 ⟨rfl, rfl⟩
          rw [HG.out]
          go_wp2_with fail
          refine (l11Sum_any No _ ws _ hv1 HS.out).mono ?_
          rintro e w1 ⟨rfl, rfl⟩
          go_wp2_with fail
          refine (l1In_any _ _ _ _).mono ?_
          rintro e w1 ⟨rfl, rfl⟩
          rw [HSS.out]
          have c00 := b0.c 0 _ rfl
          have c01 := b0.c 1 _ rfl
          have f0 := b0.fr 0
          have f1 := b0.fr 1
          go_wp2_with fail
          exact bodyPost_ret (v := .tuple #[.agg #[.int .i64 0, .int .i64 0], .bool false]) (by simp [results, Try.results5, go_sem, *]) rfl ⟨_, _, rfl, by rw [HV.out], by rw [HV.out], by first | exact kk | exact (kk.setCell (fun h => absurd h (Nat.lt_irrefl _)) _).setCell (fun h => absurd h (Nat.lt_irrefl _)) _⟩
        · have hsr := inB_iff.1 hs
          cases hi : inB L 0 4
          · have HV := Lib.hid (expV_no (n := (ws.length : Int)) (p := p) (k := k) (ws := ws) (L := L) (by rw [expB, hA, hg, hs, hi]; simp))
            have HA := Lib.hid hA
            have HG := Lib.hid hg
            have HSS := Lib.hid hs
            have HI := Lib.hid hi
            clear hA hg hs hi
            go_enter Try.func5, Try.ntmps5
            go_wp2_with fail
            refine (l4Asked_any No _ [] _ p k _ hE).mono ?_
            rintro e w1 ⟨rfl, rfl⟩
            rw [show (inB p 1 7 && inB k 1 6 && (inB (ws.length : Int) 1 8 && decide (([] : List Int).length ≤ 60) && belowB (ws.length : Int) [])) = true from HA.out]
            go_wp2_with fail
            refine (l11Weights_any No _ ws 0 _ hv1).mono ?_
            rintro e w1 ⟨rfl, rfl⟩
            rw [HG.out]
            go_wp2_with fail
            refine (l11Sum_any No _ ws _ hv1 HS.out).mono ?_
            rintro e w1 ⟨rfl, rfl⟩
            go_wp2_with fail
            refine (l1In_any _ _ _ _).mono ?_
            rintro e w1 ⟨rfl, rfl⟩
            rw [HSS.out]
            go_wp2_with fail
            refine (l1In_any _ _ _ _).mono ?_
            rintro e w1 ⟨rfl, rfl⟩
            rw [HI.out]
            have c00 := b0.c 0 _ rfl
            have c01 := b0.c 1 _ rfl
            have f0 := b0.fr 0
            have f1 := b0.fr 1
            go_wp2_with fail
            exact bodyPost_ret (v := .tuple #[.agg #[.int .i64 0, .int .i64 0], .bool false]) (by simp [results, Try.results5, go_sem, *]) rfl ⟨_, _, rfl, by rw [HV.out], by rw [HV.out], by first | exact kk | exact (kk.setCell (fun h => absurd h (Nat.lt_irrefl _)) _).setCell (fun h => absurd h (Nat.lt_irrefl _)) _⟩
          · have hLr := inB_iff.1 hi
            obtain ⟨L, rfl⟩ : ∃ m : Nat, L = (m : Int) := ⟨L.toNat, by omega⟩
            have HV := Lib.hid (expV_yes (n := (ws.length : Int)) (p := p) (k := k) (ws := ws) (L := (L : Int)) (by rw [expB, hA, hg, hs, hi]; simp))
            rw [Int.toNat_natCast] at HV
            have hok := askedB_ok hA
            have hpw := fun j hj => pow_bound (b := sumW ws) ⟨by omega, hsr.2⟩ (j := j) hj
            have hdb := drawnC_bound hn8 (wgB_mem hg) (W := sumW ws) hpw L (by omega) (newC p k)
            have hbB := bB_le (L := L) (by omega)
            have hpL := hpw L (by omega)
            have hp1 := pow_pos1 hsr.1 L
            have HDR := Lib.hid (l11Drawn_any ws (.slice a ws.length cap) hn8 hg ⟨by omega, hsr.2⟩ L (by omega) (newC p k))
            have HPW := Lib.hid (fun w' => l11Power_any (sumW ws) L w' ⟨by omega, hsr.2⟩ (by omega))
            obtain ⟨d, hd⟩ : ∃ d, drawnC ws (sumW ws) L (newC p k) = d := ⟨_, rfl⟩
            obtain ⟨P, hP⟩ : ∃ P, sumW ws ^ L = P := ⟨_, rfl⟩
            obtain ⟨r, hr⟩ : ∃ r, mkFr d P = r := ⟨_, rfl⟩
            rw [hd, hP, hr] at HV
            rw [hd] at HDR hdb
            rw [hP] at HPW hpL hp1
            have HA := Lib.hid hA
            have HG := Lib.hid hg
            have HSS := Lib.hid hs
            have HI := Lib.hid hi
            have HR := Lib.hid hr
            clear hA hg hs hi hd hP hr hpw
            go_enter Try.func5, Try.ntmps5
            go_wp2_with fail
            refine (l4Asked_any No _ [] _ p k _ hE).mono ?_
            rintro e w1 ⟨rfl, rfl⟩
            rw [show (inB p 1 7 && inB k 1 6 && (inB (ws.length : Int) 1 8 && decide (([] : List Int).length ≤ 60) && belowB (ws.length : Int) [])) = true from HA.out]
            go_wp2_with fail
            refine (l11Weights_any No _ ws 0 _ hv1).mono ?_
            rintro e w1 ⟨rfl, rfl⟩
            rw [HG.out]
            go_wp2_with fail
            refine (l11Sum_any No _ ws _ hv1 HS.out).mono ?_
            rintro e w1 ⟨rfl, rfl⟩
            go_wp2_with fail
            refine (l1In_any _ _ _ _).mono ?_
            rintro e w1 ⟨rfl, rfl⟩
            rw [HSS.out]
            go_wp2_with fail
            refine (l1In_any _ _ _ _).mono ?_
            rintro e w1 ⟨rfl, rfl⟩
            rw [HI.out]
            go_wp2_with fail
            refine (l4New_any p k _).mono ?_
            rintro e w3 ⟨v3, rfl, hrc, k3⟩
            replace kk := kk.keep k3
            replace b0 := b0.keep k3
            replace hv1 := hv1.keep k3
            have hrc := hrc No (Bd.no _)
            obtain ⟨pv3, mv3, rfl, rp, rm⟩ := id hrc
            obtain ⟨pa3, pn3, pc3, rfl⟩ := rp.shape
            obtain ⟨ma3, mn3, mc3, rfl⟩ := rm.shape
            go_wp2_with fail
            refine (HDR.out _ _ hok hrc hv1).mono ?_
            rintro e w4 ⟨_, rfl, rfl, k4⟩
            replace kk := kk.keep k4
            replace b0 := b0.keep k4
            replace hv1 := hv1.keep k4
            go_wp2_with fail
            refine (l11Sum_any No _ ws _ hv1 HS.out).mono ?_
            rintro e w1 ⟨rfl, rfl⟩
            go_wp2_with fail
            refine (HPW.out _).mono ?_
            rintro e w1 ⟨rfl, rfl⟩
            go_wp2_with fail
            refine (l2Make_any d P _ (by omega) (by omega) hp1 (by omega)).mono ?_
            rintro e w5 ⟨v0, v1, rfl, rfl, rfl, k5⟩
            rw [HR.out]
            replace kk := kk.keep k5
            replace b0 := b0.keep k5
            have c00 := b0.c 0 _ rfl
            have c01 := b0.c 1 _ rfl
            have f0 := b0.fr 0
            have f1 := b0.fr 1
            go_wp2_with fail
            exact bodyPost_ret (v := .tuple #[.agg #[.int .i64 r.num, .int .i64 r.den], .bool r.ok]) (by simp [results, Try.results5, go_sem, *]) rfl ⟨_, _, rfl, by rw [HV.out], by rw [HV.out], by first | exact kk | exact (kk.setCell (fun h => absurd h (Nat.lt_irrefl _)) _).setCell (fun h => absurd h (Nat.lt_irrefl _)) _⟩
    · have hne : ((ws.length : Int) == n) = false := by rw [beq_eq_false_iff_ne]; exact hl
      have HV := Lib.hid (expV_no (n := n) (p := p) (k := k) (ws := ws) (L := L) (by rw [expB, hA]; simp [hl]))
      have HA := Lib.hid hA
      clear hA
      go_enter Try.func5, Try.ntmps5
      go_wp2_with fail
      refine (l4Asked_any No _ [] n p k _ hE).mono ?_
      rintro e w1 ⟨rfl, rfl⟩
      rw [show (inB p 1 7 && inB k 1 6 && (inB n 1 8 && decide (([] : List Int).length ≤ 60) && belowB n [])) = true from HA.out]
      have c00 := b0.c 0 _ rfl
      have c01 := b0.c 1 _ rfl
      have f0 := b0.fr 0
      have f1 := b0.fr 1
      go_wp2_with fail
      exact bodyPost_ret (v := .tuple #[.agg #[.int .i64 0, .int .i64 0], .bool false]) (by simp [results, Try.results5, go_sem, *]) rfl ⟨_, _, rfl, by rw [HV.out], by rw [HV.out], by first | exact kk | exact (kk.setCell (fun h => absurd h (Nat.lt_irrefl _)) _).setCell (fun h => absurd h (Nat.lt_irrefl _)) _⟩
end Go.Proofs.Ytampibdnnbekjaa
