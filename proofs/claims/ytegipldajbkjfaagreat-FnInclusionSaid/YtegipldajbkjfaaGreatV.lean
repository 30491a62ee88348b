import Derived.Test.YtegipldajbkjfaaGreatU
/- FaultsBySize, both sides, and its law -/
namespace Go.Proofs.YtegipldajbkjfaaGreat
open Go.RowKit

/-- the numbers of faults for the sizes 1 .. j -/
def bySizeTo (p : Int) (l : List Int) : Nat → List Int
  | 0 => []
  | j + 1 => bySizeTo p l j ++ [((places (newC p ((j : Int) + 1)) l).length : Int)]
theorem bySizeTo_len (p : Int) (l : List Int) (j : Nat) : (bySizeTo p l j).length = j := by
  induction j with
  | zero => rfl
  | succ j ih => simp [bySizeTo, ih]
theorem asked_pol {n p k : Int} {l : List Int} (h : askedB n p k l = true) : 1 ≤ p ∧ p ≤ 7 := by
  simp only [askedB, Bool.and_eq_true, inB_iff] at h
  exact h.1.1

set_option maxRecDepth 100000 in
set_option maxHeartbeats 1000000 in
theorem l4Faults_any (A : Nat → Prop) (p k : Int) (v : Value) (l : List Int) (w : World) (hv : RI A w v l) (hA : Bd A w) (hok : Ok (newC p k)) :
    Calls Tryz.prog 92 #[.int .i64 p, .int .i64 k, v] w (Ret fun r w' => r = .int .i64 ((places (newC p k) l).length : Int) ∧ Chg No w w') := by
  go_enter Tryz.func92, Tryz.ntmps92
  go_wp2_with fail
  refine (l4New_any p k w).mono ?_
  rintro e w3 ⟨v1, rfl, hrc, k1⟩
  go_wp2_with fail
  refine (l4Places_any A v1 v (newC p k) l w3 (hrc A hA) (hv.keep k1) (hA.keep k1) hok).mono ?_
  rintro e w2 ⟨v2, rfl, o2, k2⟩
  obtain ⟨a, cap, rfl, _⟩ := o2.view
  go_wp2
  go_ret
  exact ⟨_, rfl, rfl, k1.keep k2⟩

set_option maxRecDepth 100000 in
set_option maxHeartbeats 1000000 in
theorem l4BySize_any (p : Int) (v : Value) (l : List Int) (w : World) (hv : RI No w v l) (hp : 1 ≤ p ∧ p ≤ 7) :
    Calls Tryz.prog 98 #[.int .i64 p, v] w (Ret fun r w' => OI w.heap.size w' r (bySizeTo p l 6) ∧ Chg No w w') := by
  obtain ⟨a, n, q, rfl⟩ := hv.shape
  go_enter Tryz.func98, Tryz.ntmps98
  go_wp2_with fail
  go_loopw [5, 6] (fun o i wr => ∃ j : Nat, j ≤ 6 ∧ i = .int .i64 ((j : Int) + 1) ∧ OI w.heap.size wr o (bySizeTo p l j) ∧ Chg No w wr) (fun _ i _ => 7 - (intOf i).toNat)
  case atStart => exact ⟨0, by omega, rfl, OI.zero (Nat.le_refl _), (Chg.refl No w).alloc _⟩
  case round =>
    obtain ⟨j, hj, rfl, ho, hch⟩ := hrel
    by_cases hlt : j < 6
    · have hj0 : (0 : Int) ≤ (j : Int) := Int.natCast_nonneg _
      have hj1 : (j : Int) + 1 ≤ 6 := by omega
      have hw1 : IntKind.i64.wrap ((j : Int) + 1 + 1) = (j : Int) + 1 + 1 := IntWalk.i64_in _ (by omega)
      have hsz := hch.size
      have hbl := bySizeTo_len p l j
      have HB := Lib.hid hbl
      clear hbl
      go_wp2_with fail
      refine (l4Faults_any No p ((j : Int) + 1) _ l wr (hv.keep hch) (Bd.no wr) (ok_new hp ⟨by omega, by omega⟩)).mono ?_
      rintro e w1 ⟨_, rfl, rfl, k1⟩
      have o1 := ho.keep k1
      have c1 := hch.keep k1
      have z1 := c1.size
      go_wp2_with (at_builtin; refine wapp1 rfl (.tmp 12) (.tmp 17) rfl o1 rfl rfl (by rw [HB.out]; omega) z1 ?_)
      intro v2 w2 h2 k2 f2
      go_wp2_with fail
      go_round
      case rel =>
        refine ⟨j + 1, hlt, by go_num, h2, c1.own k2 o1 (Nat.le_refl _)⟩
      case measure => simp [intOf]; omega
    · have hj' : j = 6 := by omega
      subst hj'
      go_wp2_with fail
      go_ret
      exact ⟨_, rfl, ho, hch⟩

set_option maxRecDepth 100000 in
set_option maxHeartbeats 1000000 in
theorem specFaultsBySize_any (n p : Int) (v : Value) (l : List Int) (w : World) (hv : RI No w v l) :
    Calls Tryz.prog 40 #[.int .i64 n, .int .i64 p, v] w (Ret2 fun v0 v1 w' => v1 = .bool (askedB n p 1 l) ∧ OI w.heap.size w' v0 (if askedB n p 1 l then bySizeTo p l 6 else []) ∧ Chg No w w') := by
  cases hh : askedB n p 1 l
  · have HH := Lib.hid hh
    clear hh
    go_enter Tryz.func40, Tryz.ntmps40
    go_wp2_with fail
    refine (l4Asked_any No v l n p 1 w hv).mono ?_
    rintro e w1 ⟨rfl, rfl⟩
    rw [show (inB p 1 7 && inB 1 1 6 && (inB n 1 8 && decide (l.length ≤ 60) && belowB n l)) = false from HH.out]
    go_wp2
    go_ret2
    exact ⟨_, _, rfl, rfl, OI.zero (Nat.le_refl _), (Chg.refl No w).alloc _⟩
  · have HH := Lib.hid hh
    clear hh
    go_enter Tryz.func40, Tryz.ntmps40
    go_wp2_with fail
    refine (l4Asked_any No v l n p 1 w hv).mono ?_
    rintro e w1 ⟨rfl, rfl⟩
    rw [show (inB p 1 7 && inB 1 1 6 && (inB n 1 8 && decide (l.length ≤ 60) && belowB n l)) = true from HH.out]
    go_wp2_with fail
    refine (l4BySize_any p v l w hv (asked_pol HH.out)).mono ?_
    rintro e w2 ⟨v2, rfl, o2, k2⟩
    go_wp2
    go_ret2
    exact ⟨_, _, rfl, rfl, o2, k2⟩

set_option maxRecDepth 100000 in
set_option maxHeartbeats 1000000 in
theorem implFaultsBySize_any (n p : Int) (v : Value) (l : List Int) (w : World) (hv : RI No w v l) :
    Calls Tryz.prog 39 #[.int .i64 n, .int .i64 p, v] w (Ret2 fun v0 v1 w' => v1 = .bool (askedB n p 1 l) ∧ OI w.heap.size w' v0 (if askedB n p 1 l then bySizeTo p l 6 else []) ∧ Chg No w w') := by
  cases hh : askedB n p 1 l
  · have HH := Lib.hid hh
    clear hh
    go_enter Tryz.func39, Tryz.ntmps39
    go_wp2_with fail
    refine (isRun_any No v l n p 1 w hv).mono ?_
    rintro e w1 ⟨v1, rfl, rfl, k1⟩
    rw [show (inB p 1 7 && inB 1 1 6 && (inB n 1 8 && decide (l.length ≤ 60) && belowB n l)) = false from HH.out]
    go_wp2
    go_ret2
    exact ⟨_, _, rfl, rfl, OI.nil _ _, k1⟩
  · have HH := Lib.hid hh
    have hp := asked_pol hh
    clear hh
    obtain ⟨a, nn, q, rfl⟩ := hv.shape
    go_enter Tryz.func39, Tryz.ntmps39
    go_wp2_with fail
    refine (isRun_any No _ l n p 1 w hv).mono ?_
    rintro e w0 ⟨v1, rfl, rfl, k0⟩
    rw [show (inB p 1 7 && inB 1 1 6 && (inB n 1 8 && decide (l.length ≤ 60) && belowB n l)) = true from HH.out]
    go_wp2_with fail
    go_loopw [8, 9] (fun o i wr => ∃ j : Nat, j ≤ 6 ∧ i = .int .i64 ((j : Int) + 1) ∧ OI w.heap.size wr o (bySizeTo p l j) ∧ Chg No w wr) (fun _ i _ => 7 - (intOf i).toNat)
    case atStart => exact ⟨0, by omega, rfl, (OI.zero (Nat.le_refl _)).weak k0.size, k0.alloc _⟩
    case round =>
      obtain ⟨j, hj, rfl, ho, hch⟩ := hrel
      by_cases hlt : j < 6
      · have hj0 : (0 : Int) ≤ (j : Int) := Int.natCast_nonneg _
        have hj1 : (j : Int) + 1 ≤ 6 := by omega
        have hw1 : IntKind.i64.wrap ((j : Int) + 1 + 1) = (j : Int) + 1 + 1 := IntWalk.i64_in _ (by omega)
        have hsz := hch.size
        have hbl := bySizeTo_len p l j
        have HB := Lib.hid hbl
        clear hbl
        go_wp2_with fail
        refine (faultPlaces_any No p ((j : Int) + 1) _ l wr (hv.keep hch) (ok_new hp ⟨by omega, by omega⟩)).mono ?_
        rintro e w1 ⟨vf, rfl, of, k1⟩
        obtain ⟨af, cf, rfl, _⟩ := of.view
        have o1 := ho.keep k1
        have c1 := hch.keep k1
        have z1 := c1.size
        go_wp2_with (at_builtin; refine wapp1 rfl (.tmp 20) (.tmp 26) rfl o1 rfl rfl (by rw [HB.out]; omega) z1 ?_)
        intro v2 w2 h2 k2 f2
        go_wp2_with fail
        go_round
        case rel =>
          refine ⟨j + 1, hlt, by go_num, h2, c1.own k2 o1 (Nat.le_refl _)⟩
        case measure => simp [intOf]; omega
      · have hj' : j = 6 := by omega
        subst hj'
        go_wp2_with fail
        go_ret2
        exact ⟨_, _, rfl, rfl, ho, hch⟩
end Go.Proofs.YtegipldajbkjfaaGreat
