import Derived.Test.YtodnkkmjjlfoiaaGreatPk4
import Derived.Test.YtodnkkmjjlfoiaaGreatPk2
import Derived.Test.YtodnkkmjjlfoiaaGreatCd
/- the laws' own comparisons: vInts, vHas, vTable, vCache -/
namespace Go.Proofs.YtodnkkmjjlfoiaaGreat
open Go.RowKit

set_option maxRecDepth 100000 in
set_option maxHeartbeats 1000000 in
theorem vInts_same (A B : Nat → Prop) (v v' : Value) (l : List Int) (w : World) (h : RI A w v l) (h' : RI B w v' l) :
    Calls Tryz.prog 59 #[v, v'] w (Ret fun r w' => r = .bool true ∧ Chg No w w') := by
  have hL := h.len
  obtain ⟨a, cap, rfl, hcap, hmax, hlen, _, hc⟩ := id h
  obtain ⟨a', cap', rfl, hcap', hmax', hlen', _, hc'⟩ := id h'
  go_enter Tryz.func59, Tryz.ntmps59
  go_wp2_with fail
  go_loopw [5] (fun i wr => ∃ j : Nat, j ≤ l.length ∧ i = .int .i64 j ∧ Chg No w wr) (fun i _ => l.length - (intOf i).toNat)
  case atStart => exact ⟨0, Nat.zero_le _, rfl, Chg.refl No w⟩
  case round =>
    obtain ⟨j, hj, rfl, hch⟩ := hrel
    by_cases hlt : j < l.length
    · obtain ⟨b, off, rfl, _, hb, hcell⟩ := hc (by intro e; simp [e] at hlt)
      obtain ⟨b', off', rfl, _, hb', hcell'⟩ := hc' (by intro e; simp [e] at hlt)
      have hcl := (hch.cellD b (off + j) hb (fun e => e)).trans (hcell j hlt)
      have hcl' := (hch.cellD b' (off' + j) hb' (fun e => e)).trans (hcell' j hlt)
      obtain ⟨y, hy⟩ : ∃ y, l.getD j 0 = y := ⟨_, rfl⟩
      rw [hy] at hcl hcl'
      have hj0 : (0 : Int) ≤ (j : Int) := Int.natCast_nonneg _
      have hj1 : (j : Int) < (l.length : Int) := by omega
      have hw1 : IntKind.i64.wrap ((j : Int) + 1) = (j : Int) + 1 := IntWalk.i64_in _ (by omega)
      clear hcell hcell' hc hc' hy
      go_wp2_with fail
      go_quiet (fail)
      have hd := (Chg.refl No wr).drewN nq
      have hch := hch.keep hd
      clear hcl hcl'
      generalize wr.drewN nq = W at hd hch ⊢
      go_wp2_with fail
      go_round
      case rel => exact ⟨j + 1, hlt, by go_num, hch⟩
      case measure => simp [intOf]; omega
    · have hj' : j = l.length := by omega
      subst hj'
      clear hc hc'
      go_wp2_with fail
      go_ret
      exact ⟨_, rfl, rfl, hch⟩

set_option maxRecDepth 100000 in
set_option maxHeartbeats 1000000 in
theorem vCache_same (A B : Nat → Prop) (v v' : Value) (c : Ca) (w : World) (h : RC A w v c) (h' : RC B w v' c) :
    Calls Tryz.prog 60 #[v, v'] w (Ret fun r w' => r = .bool true ∧ Chg No w w') := by
  obtain ⟨pv, mv, rfl, hp, hmk⟩ := h
  obtain ⟨pv', mv', rfl, hp', hmk'⟩ := h'
  obtain ⟨pa, pn, pc, rfl⟩ := hp.shape
  obtain ⟨ma, mn, mc, rfl⟩ := hmk.shape
  obtain ⟨pa', pn', pc', rfl⟩ := hp'.shape
  obtain ⟨ma', mn', mc', rfl⟩ := hmk'.shape
  go_enter Tryz.func60, Tryz.ntmps60
  go_wp2_with fail
  refine boxes2 (R := fun W => Calls _ _ _ W _) (fun W hW b0 b1 => ?_)
  refine (vInts_same A B _ _ _ W (hp.keep hW) (hp'.keep hW)).mono ?_
  rintro e w1 ⟨_, rfl, rfl, k1⟩
  have b0 := b0.keep k1
  have b1 := b1.keep k1
  have hW := hW.keep k1
  obtain ⟨c0, c1, c2, c3, c4, _⟩ := id b0
  obtain ⟨d0, d1, d2, d3, d4, _⟩ := id b1
  go_wp2_with fail
  refine (vInts_same A B _ _ _ _ (hmk.keep hW) (hmk'.keep hW)).mono ?_
  rintro e w2 ⟨_, rfl, rfl, k2⟩
  have b0 := b0.keep k2
  have b1 := b1.keep k2
  have hW := hW.keep k2
  clear c0 c1 c2 c3 c4 d0 d1 d2 d3 d4
  obtain ⟨c0, c1, c2, c3, c4, _⟩ := id b0
  obtain ⟨d0, d1, d2, d3, d4, _⟩ := id b1
  go_wp2_with fail
  go_ret
  exact ⟨_, rfl, rfl, hW⟩

end Go.Proofs.YtodnkkmjjlfoiaaGreat
