import Derived.Test.YtegipldajbkjfaaGreatV
import Derived.Test.YtegipldajbkjfaaGreatU
import Derived.Test.YtegipldajbkjfaaGreatFi
/- AnomalyOf, both sides -/
namespace Go.Proofs.YtegipldajbkjfaaGreat
open Go.RowKit

def worse (f : List Int) (i : Nat) : Bool := decide (f.getD i 0 < f.getD (i + 1) 0)
def anomV (n p : Int) (l : List Int) : Option Nat := if askedB n p 1 l then firstN (worse (bySizeTo p l 6)) 5 else none
theorem RI.cellN {A : Nat → Prop} {w : World} {a : Option Addr} {n cap : Nat} {l : List Int} (h : RI A w (.slice a n cap) l) (hl : 0 < l.length) :
    ∃ b off, a = some ⟨b, off, none⟩ ∧ ¬ A b ∧ b < w.heap.size ∧ ∀ i, i < l.length → w.cell? ⟨b, off + i, none⟩ = some (.int .i64 (l.getD i 0)) :=
  h.cellAt (fun e => by rw [e] at hl; simp at hl)

set_option maxRecDepth 100000 in
set_option maxHeartbeats 1000000 in
theorem implAnomalyOf_any (n p : Int) (v : Value) (l : List Int) (w : World) (hv : RI No w v l) :
    Calls Tryz.prog 37 #[.int .i64 n, .int .i64 p, v] w (Ret2 fun v0 v1 w' => v0 = .int .i64 (oneUp (anomV n p l)) ∧ v1 = .bool (anomV n p l).isSome ∧ Chg No w w') := by
  cases hh : askedB n p 1 l
  · have HA : Hid (anomV n p l = none) := Lib.hid (by unfold anomV; rw [hh]; rfl)
    have HH := Lib.hid hh
    clear hh
    go_enter Tryz.func37, Tryz.ntmps37
    go_wp2_with fail
    refine (implFaultsBySize_any n p v l w hv).mono ?_
    rintro e w1 ⟨v0, v1, rfl, rfl, o1, k1⟩
    rw [HH.out] at o1 ⊢
    obtain ⟨a1, n1, q1, rfl⟩ := o1.shape
    go_wp2_with fail
    go_loopw [10] (fun i wr => i = .int .i64 1 ∧ Chg No w wr) (fun _ _ => 1)
    case atStart => exact ⟨rfl, k1⟩
    case round =>
      obtain ⟨rfl, hch⟩ := hrel
      go_wp2_with fail
      go_ret2
      exact ⟨_, _, rfl, by rw [HA.out]; rfl, by rw [HA.out]; rfl, hch⟩
  · have HA : Hid (anomV n p l = firstN (worse (bySizeTo p l 6)) 5) := Lib.hid (by unfold anomV; rw [hh]; rfl)
    have HH := Lib.hid hh
    clear hh
    go_enter Tryz.func37, Tryz.ntmps37
    go_wp2_with fail
    refine (implFaultsBySize_any n p v l w hv).mono ?_
    rintro e w1 ⟨v0, v1, rfl, rfl, o1, k1⟩
    rw [HH.out] at o1 ⊢
    have hln := bySizeTo_len p l 6
    obtain ⟨f, hf⟩ : ∃ f, bySizeTo p l 6 = f := ⟨_, rfl⟩
    have o1 : OI w.heap.size w1 v0 f := hf ▸ o1
    rw [hf] at HA hln
    clear hf
    obtain ⟨a1, c1, rfl, hc1, hc2, hvw⟩ := o1.view
    obtain ⟨g, rfl, hg1, hg2, hcell, _⟩ := hvw (by omega)
    have HL := Lib.hid hln
    have HC := Lib.hid hcell
    clear hln hcell hvw
    have hl6 : (6 : Int) ≤ (f.length : Int) := by rw [HL.out]; decide
    go_wp2_with fail
    go_loopw [10] (fun i wr => ∃ j : Nat, j ≤ 5 ∧ i = .int .i64 ((j : Int) + 1) ∧ NoneTo (worse f) j ∧ Chg No w wr ∧ Chg No w1 wr) (fun i _ => 6 - (intOf i).toNat)
    case atStart => exact ⟨0, by omega, rfl, NoneTo.zero _, k1, Chg.refl _ _⟩
    case round =>
      obtain ⟨j, hj, rfl, hno, hch, hch1⟩ := hrel
      by_cases hlt : j < 5
      · have hc1 := (hch1.cellD g j hg2 (fun e => e)).trans (HC.out j (by rw [HL.out]; omega))
        have hc2 := (hch1.cellD g (j + 1) hg2 (fun e => e)).trans (HC.out (j + 1) (by rw [HL.out]; omega))
        obtain ⟨x, hx⟩ : ∃ x, f.getD j 0 = x := ⟨_, rfl⟩
        obtain ⟨y, hy⟩ : ∃ y, f.getD (j + 1) 0 = y := ⟨_, rfl⟩
        rw [hx] at hc1
        rw [hy] at hc2
        have HW : Hid (worse f j = decide (x < y)) := Lib.hid (by unfold worse; rw [hx, hy])
        have hj0 : (0 : Int) ≤ (j : Int) := Int.natCast_nonneg _
        have hj1 : (j : Int) + 1 < 6 := by omega
        have hw1 : IntKind.i64.wrap ((j : Int) + 1 + 1) = (j : Int) + 1 + 1 := IntWalk.i64_in _ (by omega)
        have hw2 : IntKind.i64.wrap ((j : Int) + 1 - 1) = (j : Int) := by rw [IntWalk.i64_in _ (by omega)]; omega
        have hn1 : ((j : Int) + 1).toNat = j + 1 := by omega
        clear hx hy
        by_cases hxy : x < y
        · go_wp2_with fail
          go_quiet (fail)
          go_wp2_with fail
          go_ret2
          have e := firstN_hit (n := 5) hno hlt (by rw [HW.out]; simpa using hxy)
          exact ⟨_, _, rfl, by rw [HA.out, e]; rfl, by rw [HA.out, e]; rfl, hch.drewN _⟩
        · go_wp2_with fail
          go_quiet (fail)
          have hd := (Chg.refl No wr).drewN nq
          have hch := hch.keep hd
          have hch1 := hch1.keep hd
          clear hc1 hc2
          generalize wr.drewN nq = W at hd hch hch1 ⊢
          go_wp2_with fail
          go_round
          case rel => exact ⟨j + 1, by omega, by go_num, hno.succ (by rw [HW.out]; simpa using hxy), hch, hch1⟩
          case measure => simp [intOf]; omega
      · have hj' : j = 5 := by omega
        subst hj'
        go_wp2_with fail
        go_ret2
        have e := firstN_none (n := 5) hno
        exact ⟨_, _, rfl, by rw [HA.out, e]; rfl, by rw [HA.out, e]; rfl, hch⟩
set_option maxRecDepth 100000 in
set_option maxHeartbeats 1000000 in
theorem specAnomalyOf_any (n p : Int) (v : Value) (l : List Int) (w : World) (hv : RI No w v l) :
    Calls Tryz.prog 38 #[.int .i64 n, .int .i64 p, v] w (Ret2 fun v0 v1 w' => v0 = .int .i64 (oneUp (anomV n p l)) ∧ v1 = .bool (anomV n p l).isSome ∧ Chg No w w') := by
  cases hh : askedB n p 1 l
  · have HA : Hid (anomV n p l = none) := Lib.hid (by unfold anomV; rw [hh]; rfl)
    have HH := Lib.hid hh
    clear hh
    go_enter Tryz.func38, Tryz.ntmps38
    go_wp2_with fail
    refine (l4Asked_any No v l n p 1 w hv).mono ?_
    rintro e w1 ⟨rfl, rfl⟩
    rw [show (inB p 1 7 && inB 1 1 6 && (inB n 1 8 && decide (l.length ≤ 60) && belowB n l)) = false from HH.out]
    go_wp2_with fail
    go_ret2
    exact ⟨_, _, rfl, by rw [HA.out]; rfl, by rw [HA.out]; rfl, Chg.refl _ _⟩
  · have HA : Hid (anomV n p l = firstN (worse (bySizeTo p l 6)) 5) := Lib.hid (by unfold anomV; rw [hh]; rfl)
    have HH := Lib.hid hh
    clear hh
    go_enter Tryz.func38, Tryz.ntmps38
    go_wp2_with fail
    refine (l4Asked_any No v l n p 1 w hv).mono ?_
    rintro e w0 ⟨rfl, rfl⟩
    rw [show (inB p 1 7 && inB 1 1 6 && (inB n 1 8 && decide (l.length ≤ 60) && belowB n l)) = true from HH.out]
    go_wp2_with fail
    refine (l4BySize_any p v l w hv (asked_pol HH.out)).mono ?_
    rintro e w1 ⟨v0, rfl, o1, k1⟩
    have hln := bySizeTo_len p l 6
    obtain ⟨f, hf⟩ : ∃ f, bySizeTo p l 6 = f := ⟨_, rfl⟩
    have o1 : OI w.heap.size w1 v0 f := hf ▸ o1
    rw [hf] at HA hln
    clear hf
    obtain ⟨a1, c1, rfl, hc1, hc2, hvw⟩ := o1.view
    obtain ⟨g, rfl, hg1, hg2, hcell, _⟩ := hvw (by omega)
    have HL := Lib.hid hln
    have HC := Lib.hid hcell
    clear hln hcell hvw
    have hl6 : (6 : Int) ≤ (f.length : Int) := by rw [HL.out]; decide
    go_wp2_with fail
    go_loopw [9] (fun i wr => ∃ j : Nat, j ≤ 5 ∧ i = .int .i64 ((j : Int) + 1) ∧ NoneTo (worse f) j ∧ Chg No w wr ∧ Chg No w1 wr) (fun i _ => 6 - (intOf i).toNat)
    case atStart => exact ⟨0, by omega, rfl, NoneTo.zero _, k1, Chg.refl _ _⟩
    case round =>
      obtain ⟨j, hj, rfl, hno, hch, hch1⟩ := hrel
      by_cases hlt : j < 5
      · have hc1 := (hch1.cellD g j hg2 (fun e => e)).trans (HC.out j (by rw [HL.out]; omega))
        have hc2 := (hch1.cellD g (j + 1) hg2 (fun e => e)).trans (HC.out (j + 1) (by rw [HL.out]; omega))
        obtain ⟨x, hx⟩ : ∃ x, f.getD j 0 = x := ⟨_, rfl⟩
        obtain ⟨y, hy⟩ : ∃ y, f.getD (j + 1) 0 = y := ⟨_, rfl⟩
        rw [hx] at hc1
        rw [hy] at hc2
        have HW : Hid (worse f j = decide (x < y)) := Lib.hid (by unfold worse; rw [hx, hy])
        have hj0 : (0 : Int) ≤ (j : Int) := Int.natCast_nonneg _
        have hj1 : (j : Int) + 1 < 6 := by omega
        have hw1 : IntKind.i64.wrap ((j : Int) + 1 + 1) = (j : Int) + 1 + 1 := IntWalk.i64_in _ (by omega)
        have hw2 : IntKind.i64.wrap ((j : Int) + 1 - 1) = (j : Int) := by rw [IntWalk.i64_in _ (by omega)]; omega
        have hn1 : ((j : Int) + 1).toNat = j + 1 := by omega
        clear hx hy
        by_cases hxy : x < y
        · go_wp2_with fail
          go_quiet (fail)
          go_wp2_with fail
          go_ret2
          have e := firstN_hit (n := 5) hno hlt (by rw [HW.out]; simpa using hxy)
          exact ⟨_, _, rfl, by rw [HA.out, e]; rfl, by rw [HA.out, e]; rfl, hch.drewN _⟩
        · go_wp2_with fail
          go_quiet (fail)
          have hd := (Chg.refl No wr).drewN nq
          have hch := hch.keep hd
          have hch1 := hch1.keep hd
          clear hc1 hc2
          generalize wr.drewN nq = W at hd hch hch1 ⊢
          go_wp2_with fail
          go_round
          case rel => exact ⟨j + 1, by omega, by go_num, hno.succ (by rw [HW.out]; simpa using hxy), hch, hch1⟩
          case measure => simp [intOf]; omega
      · have hj' : j = 5 := by omega
        subst hj'
        go_wp2_with fail
        go_ret2
        have e := firstN_none (n := 5) hno
        exact ⟨_, _, rfl, by rw [HA.out, e]; rfl, by rw [HA.out, e]; rfl, hch⟩
end Go.Proofs.YtegipldajbkjfaaGreat
