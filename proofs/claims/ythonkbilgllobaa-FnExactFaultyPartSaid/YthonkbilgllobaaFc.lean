import Derived.Test.YthonkbilgllobaaFb
import Derived.Test.YthonkbilgllobaaJ
/- the law of FaultyPart returns true -/
namespace Go.Proofs.Ythonkbilgllobaa
open Go.RowKit

set_option maxRecDepth 100000 in
set_option maxHeartbeats 400000 in
theorem eqIntA2_same (a b : Int) (w : World) :
    Calls Try.prog 32 #[.agg #[.int .i64 a, .int .i64 b], .agg #[.int .i64 a, .int .i64 b]] w (Ret fun v w' => v = .bool true ∧ Chg No w w') := by
  have ba := (BoxN.new w #[.int .i64 a, .int .i64 b] 44).keep ((Chg.refl No _).alloc (.cells #[.int .i64 a, .int .i64 b] 44))
  have bb := BoxN.new (w.alloc (.cells #[.int .i64 a, .int .i64 b] 44)) #[.int .i64 a, .int .i64 b] 44
  rw [show (w.alloc (.cells #[.int .i64 a, .int .i64 b] 44)).heap.size = w.heap.size + 1 by simp] at bb
  have kk := ((Chg.refl No w).alloc (.cells #[.int .i64 a, .int .i64 b] 44)).alloc (.cells #[.int .i64 a, .int .i64 b] 44)
  go_enter Try.func32, Try.ntmps32
  go_wp2_with fail
  go_loopw [5] (fun i wr => ∃ j : Nat, j ≤ 2 ∧ i = .int .i64 j ∧ Chg No ((w.alloc (.cells #[.int .i64 a, .int .i64 b] 44)).alloc (.cells #[.int .i64 a, .int .i64 b] 44)) wr) (fun i _ => 2 - (intOf i).toNat)
  case atStart => exact ⟨0, by omega, rfl, Chg.refl No _⟩
  case round =>
    obtain ⟨j, hj, rfl, hch⟩ := hrel
    have ba := ba.keep hch
    have bb := bb.keep hch
    have kk := kk.keep hch
    by_cases hlt : j < 2
    · obtain ⟨y, hya, hyb⟩ : ∃ y, wr.cell? ⟨w.heap.size, j, none⟩ = some (.int .i64 y) ∧ wr.cell? ⟨w.heap.size + 1, j, none⟩ = some (.int .i64 y) := by
        match j, hlt with
        | 0, _ => exact ⟨a, ba.c 0 _ rfl, bb.c 0 _ rfl⟩
        | 1, _ => exact ⟨b, ba.c 1 _ rfl, bb.c 1 _ rfl⟩
      have hj0 : (0 : Int) ≤ (j : Int) := Int.natCast_nonneg _
      have hj1 : (j : Int) < 2 := by omega
      have hw1 : IntKind.i64.wrap ((j : Int) + 1) = (j : Int) + 1 := IntWalk.i64_in _ (by omega)
      clear ba bb
      go_wp2_with fail
      go_quiet (fail)
      have hd := (Chg.refl No wr).drewN nq
      have hch := hch.keep hd
      clear hya hyb
      generalize wr.drewN nq = W at hd hch ⊢
      go_wp2_with fail
      go_round
      case rel => exact ⟨j + 1, hlt, by go_num, hch⟩
      case measure => simp [intOf]; omega
    · have hj' : j = 2 := by omega
      subst hj'
      go_wp2_with fail
      go_ret
      exact ⟨_, rfl, rfl, kk⟩

set_option maxRecDepth 100000 in
set_option maxHeartbeats 4000000 in
theorem lawFaultyPart_any (n p k : Int) (v : Value) (l : List Int) (w : World) (hv : RI No w v l) (hl : l.length ≤ 1048576) :
    Calls Try.prog 6 #[.int .i64 n, .int .i64 p, .int .i64 k, v] w fun e w' => e = .returned (.bool true) ∧ Chg No w w' := by
  obtain ⟨a, c, rfl, _⟩ := id hv
  have hle : ¬ (1048576 : Int) < (l.length : Int) := by omega
  obtain ⟨r, hr⟩ : ∃ r, faultyV n p k l = r := ⟨_, rfl⟩
  have HR := Lib.hid hr
  clear hr
  go_enter Try.func6, Try.ntmps6
  go_wp2_with fail
  refine (toIntS_any No _ l w hv).mono ?_
  rintro e w1 ⟨t1, rfl, o1, k1⟩
  go_wp2_with fail
  refine (specFaultyPart_any n p k t1 l w1 o1.readNo).mono ?_
  rintro e w2 ⟨v0, vb, rfl, rfl, rfl, k2⟩
  rw [HR.out]
  have k12 := k1.keep k2
  have hw : w.heap.size ≤ w2.heap.size := k12.size
  go_wp2_with fail
  have ba := BoxN.new w2 #[.int .i64 (prA r), .int .i64 (prB r)] 44
  have ka := k12.alloc (.cells #[.int .i64 (prA r), .int .i64 (prB r)] 44)
  refine (toIntS_any No _ l _ (hv.keep ka)).mono ?_
  rintro e w3 ⟨x3, rfl, ox, k3⟩
  go_wp2_with fail
  refine (implFaultyPart_any n p k x3 l w3 ox.readNo).mono ?_
  rintro e w4 ⟨g0, gb, rfl, rfl, rfl, k4⟩
  rw [HR.out]
  have ox := ox.keep k4
  have kb := (ka.keep k3).keep k4
  have ba := ((ba.keep k3).keep k4).keep ((Chg.refl No w4).alloc (.cells #[.int .i64 (prA r), .int .i64 (prB r)] 44))
  have bb := BoxN.new w4 #[.int .i64 (prA r), .int .i64 (prB r)] 44
  have c00 := ba.c 0 _ rfl
  have c01 := ba.c 1 _ rfl
  have c10 := bb.c 0 _ rfl
  have c11 := bb.c 1 _ rfl
  go_wp2_with fail
  refine (eqIntA2_same _ _ _).mono ?_
  rintro e w5 ⟨_, rfl, rfl, k5⟩
  have ox := (ox.alloc _).keep k5
  have kc := (kb.alloc _).keep k5
  clear c00 c01 c10 c11
  go_wp2_with fail
  refine (toIntS_any No _ l w5 (hv.keep kc)).mono ?_
  rintro e w6 ⟨t2, rfl, o2, k6⟩
  go_wp2_with fail
  refine (eqIntS_same No No x3 t2 l w6 (ox.keep k6).readNo o2.readNo).mono ?_
  rintro e w7 ⟨_, rfl, rfl, k7⟩
  go_wp2_with fail
  go_ret
  exact ⟨rfl, (kc.keep k6).keep k7⟩
end Go.Proofs.Ythonkbilgllobaa
