import Derived.Test.YtlcolfbpighgcaaFr
import Derived.Test.YtlcolfbpighgcaaV
import Derived.Test.YtlcolfbpighgcaaU
/- HitShare, both sides, and its law -/
namespace Go.Proofs.Ytlcolfbpighgcaa
open Go.RowKit

def hitV (n p k : Int) (l : List Int) : Fr := if askedB n p k l && decide (0 < l.length) then mkFr ((l.length : Int) - ((places (newC p k) l).length : Int)) (l.length : Int) else ⟨0, 0, false⟩

set_option maxRecDepth 100000 in
set_option maxHeartbeats 1000000 in
theorem specHitShare_any (n p k : Int) (v : Value) (l : List Int) (w : World) (hv : RI No w v l) :
    Calls Try.prog 27 #[.int .i64 n, .int .i64 p, .int .i64 k, v] w (Ret2 fun v0 v1 w' => v0 = .agg #[.int .i64 (hitV n p k l).num, .int .i64 (hitV n p k l).den] ∧ v1 = .bool (hitV n p k l).ok ∧ Chg No w w') := by
  have b0 := BoxN.new w #[.int .i64 0, .int .i64 0] 49
  have kk := (Chg.refl No w).alloc (.cells #[.int .i64 0, .int .i64 0] 49)
  have hv1 := hv.keep kk
  by_cases hh : askedB n p k l = true
  · by_cases h0 : 0 < l.length
    · have HV : Hid (hitV n p k l = mkFr ((l.length : Int) - ((places (newC p k) l).length : Int)) (l.length : Int)) := Lib.hid (by unfold hitV; rw [hh]; simp [h0])
      have hpl : (places (newC p k) l).length ≤ l.length := placesTo_le (newC p k) l l.length
      obtain ⟨m, hm⟩ : ∃ m, (places (newC p k) l).length = m := ⟨_, rfl⟩
      rw [hm] at hpl
      have hm0 : (0 : Int) ≤ (m : Int) := Int.natCast_nonneg _
      have hm1 : (m : Int) ≤ (l.length : Int) := by omega
      rw [hm] at HV
      obtain ⟨r, hr⟩ : ∃ r, mkFr ((l.length : Int) - (m : Int)) (l.length : Int) = r := ⟨_, rfl⟩
      rw [hr] at HV
      have hL := hv.len
      have hl1 : (1 : Int) ≤ (l.length : Int) := by omega
      have hne : ((l.length : Int) == 0) = false := by rw [beq_eq_false_iff_ne]; omega
      have hne' : (l.length == 0) = false := by rw [beq_eq_false_iff_ne]; omega
      have HM := Lib.hid hm
      have HR := Lib.hid hr
      have HH := Lib.hid hh
      clear hm hr hh
      obtain ⟨a, c, rfl, _⟩ := id hv
      go_enter Try.func27, Try.ntmps27
      go_wp2_with fail
      refine (l4Asked_any No _ _ n p k _ hv1).mono ?_
      rintro e w1 ⟨rfl, rfl⟩

      rw [show (inB p 1 7 && inB k 1 6 && (inB n 1 8 && decide (l.length ≤ 60) && belowB n l)) = true from HH.out]
      go_wp2_with fail
      refine (l4Faults_any No p k _ l _ hv1 (Bd.no _) (askedB_ok HH.out)).mono ?_
      rintro e w4 ⟨_, rfl, rfl, k4⟩
      rw [HM.out]
      have kk := kk.keep k4
      have b0 := b0.keep k4
      go_wp2_with fail
      refine (l2Make_any ((l.length : Int) - (m : Int)) (l.length : Int) _ (by omega) (by omega) hl1 (by omega)).mono ?_
      rintro e w5 ⟨v0, v1, rfl, rfl, rfl, k5⟩
      rw [HR.out]
      have kk := kk.keep k5
      have b0 := b0.keep k5
      have c00 := b0.c 0 _ rfl
      have c01 := b0.c 1 _ rfl
      have f0 := b0.fr 0
      have f1 := b0.fr 1
      go_wp2_with fail
      exact bodyPost_ret (v := .tuple #[.agg #[.int .i64 r.num, .int .i64 r.den], .bool r.ok]) (by simp [results, Try.results27, go_sem, *]) rfl ⟨_, _, rfl, by rw [HV.out], by rw [HV.out], by first | exact kk | exact (kk.setCell (fun h => absurd h (Nat.lt_irrefl _)) _).setCell (fun h => absurd h (Nat.lt_irrefl _)) _⟩
    · have hl0 : l = [] := List.eq_nil_of_length_eq_zero (by omega)
      subst hl0
      have HV : Hid (hitV n p k [] = ⟨0, 0, false⟩) := Lib.hid (by unfold hitV; simp)
      have HH := Lib.hid hh
      clear hh h0
      obtain ⟨a, c, rfl, _⟩ := id hv
      go_enter Try.func27, Try.ntmps27
      go_wp2_with fail
      refine (l4Asked_any No _ _ n p k _ hv1).mono ?_
      rintro e w1 ⟨rfl, rfl⟩

      rw [show (inB p 1 7 && inB k 1 6 && (inB n 1 8 && decide (([] : List Int).length ≤ 60) && belowB n [])) = true from HH.out]
      have c00 := b0.c 0 _ rfl
      have c01 := b0.c 1 _ rfl
      have f0 := b0.fr 0
      have f1 := b0.fr 1
      go_wp2_with fail
      exact bodyPost_ret (v := .tuple #[.agg #[.int .i64 0, .int .i64 0], .bool false]) (by simp [results, Try.results27, go_sem, *]) rfl ⟨_, _, rfl, by rw [HV.out], by rw [HV.out], by first | exact kk | exact (kk.setCell (fun h => absurd h (Nat.lt_irrefl _)) _).setCell (fun h => absurd h (Nat.lt_irrefl _)) _⟩
  · have hh : askedB n p k l = false := by simpa using hh
    have HV : Hid (hitV n p k l = ⟨0, 0, false⟩) := Lib.hid (by unfold hitV; rw [hh]; rfl)
    have HH := Lib.hid hh
    clear hh
    go_enter Try.func27, Try.ntmps27
    go_wp2_with fail
    refine (l4Asked_any No _ _ n p k _ hv1).mono ?_
    rintro e w1 ⟨rfl, rfl⟩

    rw [show (inB p 1 7 && inB k 1 6 && (inB n 1 8 && decide (l.length ≤ 60) && belowB n l)) = false from HH.out]
    have c00 := b0.c 0 _ rfl
    have c01 := b0.c 1 _ rfl
    have f0 := b0.fr 0
    have f1 := b0.fr 1
    go_wp2_with fail
    exact bodyPost_ret (v := .tuple #[.agg #[.int .i64 0, .int .i64 0], .bool false]) (by simp [results, Try.results27, go_sem, *]) rfl ⟨_, _, rfl, by rw [HV.out], by rw [HV.out], by first | exact kk | exact (kk.setCell (fun h => absurd h (Nat.lt_irrefl _)) _).setCell (fun h => absurd h (Nat.lt_irrefl _)) _⟩

set_option maxRecDepth 100000 in
set_option maxHeartbeats 1000000 in
theorem implHitShare_any (n p k : Int) (v : Value) (l : List Int) (w : World) (hv : RI No w v l) :
    Calls Try.prog 28 #[.int .i64 n, .int .i64 p, .int .i64 k, v] w (Ret2 fun v0 v1 w' => v0 = .agg #[.int .i64 (hitV n p k l).num, .int .i64 (hitV n p k l).den] ∧ v1 = .bool (hitV n p k l).ok ∧ Chg No w w') := by
  have b0 := BoxN.new w #[.int .i64 0, .int .i64 0] 49
  have kk := (Chg.refl No w).alloc (.cells #[.int .i64 0, .int .i64 0] 49)
  have hv1 := hv.keep kk
  by_cases hh : askedB n p k l = true
  · by_cases h0 : 0 < l.length
    · have HV : Hid (hitV n p k l = mkFr ((l.length : Int) - ((places (newC p k) l).length : Int)) (l.length : Int)) := Lib.hid (by unfold hitV; rw [hh]; simp [h0])
      have hpl : (places (newC p k) l).length ≤ l.length := placesTo_le (newC p k) l l.length
      obtain ⟨m, hm⟩ : ∃ m, (places (newC p k) l).length = m := ⟨_, rfl⟩
      rw [hm] at hpl
      have hm0 : (0 : Int) ≤ (m : Int) := Int.natCast_nonneg _
      have hm1 : (m : Int) ≤ (l.length : Int) := by omega
      rw [hm] at HV
      obtain ⟨r, hr⟩ : ∃ r, mkFr ((l.length : Int) - (m : Int)) (l.length : Int) = r := ⟨_, rfl⟩
      rw [hr] at HV
      have hL := hv.len
      have hl1 : (1 : Int) ≤ (l.length : Int) := by omega
      have hne : ((l.length : Int) == 0) = false := by rw [beq_eq_false_iff_ne]; omega
      have hne' : (l.length == 0) = false := by rw [beq_eq_false_iff_ne]; omega
      have HM := Lib.hid hm
      have HR := Lib.hid hr
      have HH := Lib.hid hh
      clear hm hr hh
      obtain ⟨a, c, rfl, _⟩ := id hv
      go_enter Try.func28, Try.ntmps28
      go_wp2_with fail
      refine (isRun_any No _ _ n p k _ hv1).mono ?_
      rintro e w1 ⟨v1, rfl, rfl, k1⟩
      have kk := kk.keep k1
      have b0 := b0.keep k1
      have hv1 := hv1.keep k1
      rw [show (inB p 1 7 && inB k 1 6 && (inB n 1 8 && decide (l.length ≤ 60) && belowB n l)) = true from HH.out]
      go_wp2_with fail
      refine (faultPlaces_any No p k _ l _ hv1 (askedB_ok HH.out)).mono ?_
      rintro e w4 ⟨vf, rfl, of, k4⟩
      obtain ⟨af, cf, rfl, _⟩ := of.view
      rw [HM.out]
      have kk := kk.keep k4
      have b0 := b0.keep k4
      go_wp2_with fail
      refine (makeFrac_any ((l.length : Int) - (m : Int)) (l.length : Int) _ (by omega) (by omega) hl1 (by omega)).mono ?_
      rintro e w5 ⟨v0, v1, rfl, rfl, rfl, k5⟩
      rw [HR.out]
      have kk := kk.keep k5
      have b0 := b0.keep k5
      have c00 := b0.c 0 _ rfl
      have c01 := b0.c 1 _ rfl
      have f0 := b0.fr 0
      have f1 := b0.fr 1
      go_wp2_with fail
      exact bodyPost_ret (v := .tuple #[.agg #[.int .i64 r.num, .int .i64 r.den], .bool r.ok]) (by simp [results, Try.results28, go_sem, *]) rfl ⟨_, _, rfl, by rw [HV.out], by rw [HV.out], by first | exact kk | exact (kk.setCell (fun h => absurd h (Nat.lt_irrefl _)) _).setCell (fun h => absurd h (Nat.lt_irrefl _)) _⟩
    · have hl0 : l = [] := List.eq_nil_of_length_eq_zero (by omega)
      subst hl0
      have HV : Hid (hitV n p k [] = ⟨0, 0, false⟩) := Lib.hid (by unfold hitV; simp)
      have HH := Lib.hid hh
      clear hh h0
      obtain ⟨a, c, rfl, _⟩ := id hv
      go_enter Try.func28, Try.ntmps28
      go_wp2_with fail
      refine (isRun_any No _ _ n p k _ hv1).mono ?_
      rintro e w1 ⟨v1, rfl, rfl, k1⟩
      have kk := kk.keep k1
      have b0 := b0.keep k1
      have hv1 := hv1.keep k1
      rw [show (inB p 1 7 && inB k 1 6 && (inB n 1 8 && decide (([] : List Int).length ≤ 60) && belowB n [])) = true from HH.out]
      have c00 := b0.c 0 _ rfl
      have c01 := b0.c 1 _ rfl
      have f0 := b0.fr 0
      have f1 := b0.fr 1
      go_wp2_with fail
      exact bodyPost_ret (v := .tuple #[.agg #[.int .i64 0, .int .i64 0], .bool false]) (by simp [results, Try.results28, go_sem, *]) rfl ⟨_, _, rfl, by rw [HV.out], by rw [HV.out], by first | exact kk | exact (kk.setCell (fun h => absurd h (Nat.lt_irrefl _)) _).setCell (fun h => absurd h (Nat.lt_irrefl _)) _⟩
  · have hh : askedB n p k l = false := by simpa using hh
    have HV : Hid (hitV n p k l = ⟨0, 0, false⟩) := Lib.hid (by unfold hitV; rw [hh]; rfl)
    have HH := Lib.hid hh
    clear hh
    go_enter Try.func28, Try.ntmps28
    go_wp2_with fail
    refine (isRun_any No _ _ n p k _ hv1).mono ?_
    rintro e w1 ⟨v1, rfl, rfl, k1⟩
    have kk := kk.keep k1
    have b0 := b0.keep k1
    have hv1 := hv1.keep k1
    rw [show (inB p 1 7 && inB k 1 6 && (inB n 1 8 && decide (l.length ≤ 60) && belowB n l)) = false from HH.out]
    have c00 := b0.c 0 _ rfl
    have c01 := b0.c 1 _ rfl
    have f0 := b0.fr 0
    have f1 := b0.fr 1
    go_wp2_with fail
    exact bodyPost_ret (v := .tuple #[.agg #[.int .i64 0, .int .i64 0], .bool false]) (by simp [results, Try.results28, go_sem, *]) rfl ⟨_, _, rfl, by rw [HV.out], by rw [HV.out], by first | exact kk | exact (kk.setCell (fun h => absurd h (Nat.lt_irrefl _)) _).setCell (fun h => absurd h (Nat.lt_irrefl _)) _⟩

set_option maxRecDepth 100000 in
set_option maxHeartbeats 1000000 in
theorem eqFrac_same (a b : Int) (w : World) :
    Calls Try.prog 29 #[.agg #[.int .i64 a, .int .i64 b], .agg #[.int .i64 a, .int .i64 b]] w (Ret fun v w' => v = .bool true ∧ Chg No w w') := by
  go_enter Try.func29, Try.ntmps29
  go_wp2_with fail
  go_ret
  exact ⟨_, rfl, rfl, ((Chg.refl No w).alloc _).alloc _⟩

set_option maxRecDepth 100000 in
set_option maxHeartbeats 4000000 in
theorem lawHitShare_any (n p k : Int) (v : Value) (l : List Int) (w : World) (hv : RI No w v l) (hl : l.length ≤ 1048576) :
    Calls Try.prog 7 #[.int .i64 n, .int .i64 p, .int .i64 k, v] w fun e w' => e = .returned (.bool true) ∧ Chg No w w' := by
  obtain ⟨a, c, rfl, _⟩ := id hv
  have hle : ¬ (1048576 : Int) < (l.length : Int) := by omega
  obtain ⟨r, hr⟩ : ∃ r, hitV n p k l = r := ⟨_, rfl⟩
  have HR := Lib.hid hr
  clear hr
  go_enter Try.func7, Try.ntmps7
  go_wp2_with fail
  refine (toIntS_any No _ l w hv).mono ?_
  rintro e w1 ⟨t1, rfl, o1, k1⟩
  go_wp2_with fail
  refine (specHitShare_any n p k t1 l w1 o1.readNo).mono ?_
  rintro e w2 ⟨v0, vb, rfl, rfl, rfl, k2⟩
  rw [HR.out]
  have k12 := k1.keep k2
  have hw : w.heap.size ≤ w2.heap.size := k12.size
  go_wp2_with fail
  have ba := BoxN.new w2 #[.int .i64 r.num, .int .i64 r.den] 49
  have ka := k12.alloc (.cells #[.int .i64 r.num, .int .i64 r.den] 49)
  refine (toIntS_any No _ l _ (hv.keep ka)).mono ?_
  rintro e w3 ⟨x3, rfl, ox, k3⟩
  go_wp2_with fail
  refine (implHitShare_any n p k x3 l w3 ox.readNo).mono ?_
  rintro e w4 ⟨g0, gb, rfl, rfl, rfl, k4⟩
  rw [HR.out]
  have ox := ox.keep k4
  have kb := (ka.keep k3).keep k4
  have ba := ((ba.keep k3).keep k4).keep ((Chg.refl No w4).alloc (.cells #[.int .i64 r.num, .int .i64 r.den] 49))
  have bb := BoxN.new w4 #[.int .i64 r.num, .int .i64 r.den] 49
  have c00 := ba.c 0 _ rfl
  have c01 := ba.c 1 _ rfl
  have c10 := bb.c 0 _ rfl
  have c11 := bb.c 1 _ rfl
  go_wp2_with fail
  refine (eqFrac_same _ _ _).mono ?_
  rintro e w5 ⟨_, rfl, rfl, k5⟩
  have ox := (ox.alloc _).keep k5
  have kc := (kb.alloc _).keep k5
  clear c00 c01 c10 c11
  go_wp2_with fail
  refine (toIntS_any No _ l w5 (hv.keep kc)).mono ?_
  rintro e w6 ⟨t2, rfl, o2, k6⟩
  go_wp2_with fail
  refine (eqIntS_same No No x3 t2 l w6 (ox.keep k6).readNo o2.readNo).mono ?_
  rintro e w7 ⟨_, rfl, rfl, k7⟩
  go_wp2_with fail
  go_ret
  exact ⟨rfl, (kc.keep k6).keep k7⟩
end Go.Proofs.Ytlcolfbpighgcaa
