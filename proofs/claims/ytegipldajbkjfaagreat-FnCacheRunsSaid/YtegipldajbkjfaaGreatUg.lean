import Derived.Test.YtegipldajbkjfaaGreatSs
import Derived.Test.YtegipldajbkjfaaGreatA
import Derived.Test.YtegipldajbkjfaaGreatCd
/- the laws' own comparisons: vInts, vHas, vTable, vCache -/
namespace Go.Proofs.YtegipldajbkjfaaGreat
open Go.RowKit

set_option maxRecDepth 100000 in
set_option maxHeartbeats 1000000 in
theorem vInts_same (A B : Nat → Prop) (v v' : Value) (l : List Int) (w : World) (h : RI A w v l) (h' : RI B w v' l) :
    Calls Tryz.prog 17 #[v, v'] w (Ret fun r w' => r = .bool true ∧ Chg No w w') := by
  have hL := h.len
  obtain ⟨a, cap, rfl, hcap, hmax, hlen, _, hc⟩ := id h
  obtain ⟨a', cap', rfl, hcap', hmax', hlen', _, hc'⟩ := id h'
  go_enter Tryz.func17, Tryz.ntmps17
  go_wp2_with fail
  go_loopw [5] (fun i wr => ∃ j : Nat, j ≤ l.length ∧ i = .int .i64 j ∧ Chg No w wr) (fun i _ => l.length - (intOf i).toNat)
  case atStart => exact ⟨0, Nat.zero_le _, rfl, Chg.refl No w⟩
  case round =>
    obtain ⟨j, hj, rfl, hch⟩ := hrel
    by_cases hlt : j < l.length
    · obtain ⟨b, off, rfl, _, hb, hcell⟩ := hc (by intro e; simp [e] at hlt)
      obtain ⟨b', off', rfl, _, hb', hcell'⟩ := hc' (by intro e; simp [e] at hlt)
      have hcl := (hch.cellD b (off + j) hb (fun e => e)).trans (hcell j hlt)
      have hcl' := (hch.cellD b' (off' + j) hb' (fun e => e)).trans (hcell' j hlt)
      obtain ⟨y, hy⟩ : ∃ y, l.getD j 0 = y := ⟨_, rfl⟩
      rw [hy] at hcl hcl'
      have hj0 : (0 : Int) ≤ (j : Int) := Int.natCast_nonneg _
      have hj1 : (j : Int) < (l.length : Int) := by omega
      have hw1 : IntKind.i64.wrap ((j : Int) + 1) = (j : Int) + 1 := IntWalk.i64_in _ (by omega)
      clear hcell hcell' hc hc' hy
      go_wp2_with fail
      go_quiet (fail)
      have hd := (Chg.refl No wr).drewN nq
      have hch := hch.keep hd
      clear hcl hcl'
      generalize wr.drewN nq = W at hd hch ⊢
      go_wp2_with fail
      go_round
      case rel => exact ⟨j + 1, hlt, by go_num, hch⟩
      case measure => simp [intOf]; omega
    · have hj' : j = l.length := by omega
      subst hj'
      clear hc hc'
      go_wp2_with fail
      go_ret
      exact ⟨_, rfl, rfl, hch⟩

set_option maxRecDepth 100000 in
set_option maxHeartbeats 1000000 in
theorem vInts_qt (A B : Nat → Prop) (v v' : Value) (l : List Int) (w : World) (h : RI A w v l) (h' : RI B w v' l) :
    Calls Tryz.prog 17 #[v, v'] w fun e w' => e = .returned (.bool true) ∧ Qt w w' := by
  have hL := h.len
  obtain ⟨a, cap, rfl, hcap, hmax, hlen, _, hc⟩ := id h
  obtain ⟨a', cap', rfl, hcap', hmax', hlen', _, hc'⟩ := id h'
  go_enter Tryz.func17, Tryz.ntmps17
  go_wp2_with fail
  go_loopw [5] (fun i wr => ∃ j : Nat, j ≤ l.length ∧ i = .int .i64 j ∧ Qt w wr) (fun i _ => l.length - (intOf i).toNat)
  case atStart => exact ⟨0, Nat.zero_le _, rfl, Qt.refl w⟩
  case round =>
    obtain ⟨j, hj, rfl, hq⟩ := hrel
    have hch := hq.chg
    by_cases hlt : j < l.length
    · obtain ⟨b, off, rfl, _, hb, hcell⟩ := hc (by intro e; simp [e] at hlt)
      obtain ⟨b', off', rfl, _, hb', hcell'⟩ := hc' (by intro e; simp [e] at hlt)
      have hcl := (hch.cellD b (off + j) hb (fun e => e)).trans (hcell j hlt)
      have hcl' := (hch.cellD b' (off' + j) hb' (fun e => e)).trans (hcell' j hlt)
      obtain ⟨y, hy⟩ : ∃ y, l.getD j 0 = y := ⟨_, rfl⟩
      rw [hy] at hcl hcl'
      have hj0 : (0 : Int) ≤ (j : Int) := Int.natCast_nonneg _
      have hj1 : (j : Int) < (l.length : Int) := by omega
      have hw1 : IntKind.i64.wrap ((j : Int) + 1) = (j : Int) + 1 := IntWalk.i64_in _ (by omega)
      clear hcell hcell' hc hc' hy
      go_wp2_with fail
      go_quiet (fail)
      go_wp2_with fail
      go_round
      case rel => exact ⟨j + 1, hlt, by go_num, hq.trans ⟨_, rfl⟩⟩
      case measure => simp [intOf]; omega
    · have hj' : j = l.length := by omega
      subst hj'
      clear hc hc'
      go_wp2_with fail
      go_ret
      exact ⟨rfl, hq⟩

set_option maxHeartbeats 400000 in
theorem vHas_any (A : Nat → Prop) (v : Value) (l : List Int) (n : Int) (w : World) (h : RI A w v l) :
    Calls Tryz.prog 19 #[v, .int .i64 n] w fun e w' => e = .returned (.bool (hasB l n)) ∧ w = w' := by
  obtain ⟨a, cap, rfl, hcap, hmax, hlen, _, hc⟩ := h
  go_enter Tryz.func19, Tryz.ntmps19
  go_wp2
  go_loop [4, 5] (fun r i => ∃ k : Nat, k ≤ l.length ∧ i = .int .i64 k ∧ r = .bool false ∧ hasB (l.take k) n = false) (fun _ i => l.length - (intOf i).toNat)
  case atStart => exact ⟨0, Nat.zero_le _, rfl, rfl, rfl⟩
  case round =>
    obtain ⟨k, hk, rfl, rfl, hh⟩ := hrel
    have H := Lib.hid hh
    clear hh
    by_cases hlt : k < l.length
    · obtain ⟨b, off, rfl, _, _, hcell⟩ := hc (by intro e; simp [e] at hlt)
      have hck := hcell k hlt
      have hs := Lib.hid (hasB_snoc l n k hlt)
      go_wp2
      · go_ret
        have h : (l[k] == n) = true := by assumption
        have h1 : hasB l n = true := by
          unfold hasB
          rw [List.contains_iff_mem, ← beq_iff_eq.1 h]
          exact List.getElem_mem hlt
        exact ⟨ret_bool h1.symm, rfl⟩
      · have h : (l[k] == n) = false := by assumption
        go_round
        case rel => exact ⟨k + 1, by omega, by go_num, rfl, by rw [hs.out, H.out, h]; rfl⟩
        case measure => simp [intOf]; omega
    · have hkl : k = l.length := by omega
      go_wp2
      go_ret
      subst hkl
      exact ⟨ret_bool (by have := H.out; rw [List.take_length] at this; exact this.symm), rfl⟩

set_option maxRecDepth 100000 in
set_option maxHeartbeats 1000000 in
theorem vTable_same (A B : Nat → Prop) (v v' : Value) (ll : List (List Int)) (w : World) (h : RII A w v ll) (h' : RII B w v' ll) :
    Calls Tryz.prog 31 #[v, v'] w fun e w' => e = .returned (.bool true) ∧ Qt w w' := by
  have hL := h.len
  obtain ⟨a, cap, rfl, hcap, hmax, hvw⟩ := h.view
  obtain ⟨a', cap', rfl, hcap', hmax', hvw'⟩ := h'.view
  have HV := Lib.hid hvw
  have HV' := Lib.hid hvw'
  clear hvw hvw'
  go_enter Tryz.func31, Tryz.ntmps31
  go_wp2_with fail
  go_loopw [5] (fun i wr => ∃ j : Nat, j ≤ ll.length ∧ i = .int .i64 j ∧ Qt w wr) (fun i _ => ll.length - (intOf i).toNat)
  case atStart => exact ⟨0, Nat.zero_le _, rfl, Qt.refl w⟩
  case round =>
    obtain ⟨j, hj, rfl, hq⟩ := hrel
    have hch := hq.chg
    by_cases hlt : j < ll.length
    · obtain ⟨b, off, x, rfl, _, hb, hcell, hx⟩ := HV.out j hlt
      obtain ⟨b', off', x', rfl, _, hb', hcell', hx'⟩ := HV'.out j hlt
      have hcl := (hch.cellD b (off + j) hb (fun e => e)).trans hcell
      have hcl' := (hch.cellD b' (off' + j) hb' (fun e => e)).trans hcell'
      have hx1 := hx.keep hch
      have hx1' := hx'.keep hch
      obtain ⟨xa, xn, xc, rfl⟩ := hx.shape
      obtain ⟨xa', xn', xc', rfl⟩ := hx'.shape
      have hj0 : (0 : Int) ≤ (j : Int) := Int.natCast_nonneg _
      have hj1 : (j : Int) < (ll.length : Int) := by omega
      have hw1 : IntKind.i64.wrap ((j : Int) + 1) = (j : Int) + 1 := IntWalk.i64_in _ (by omega)
      clear hcell hcell'
      go_wp2_with fail
      go_quiet ((go_at_call 17; exact qt_quiet (vInts_qt A B _ _ _ _ (hx1.keep ((Chg.refl No wr).drewN _)) (hx1'.keep ((Chg.refl No wr).drewN _)))))
      go_wp2_with fail
      go_round
      case rel => exact ⟨j + 1, hlt, by go_num, hq.trans ⟨_, rfl⟩⟩
      case measure => simp [intOf]; omega
    · have hj' : j = ll.length := by omega
      subst hj'
      go_wp2_with fail
      go_ret
      exact ⟨rfl, hq⟩

set_option maxRecDepth 100000 in
set_option maxHeartbeats 1000000 in
theorem vCache_same (A B : Nat → Prop) (v v' : Value) (c : Ca) (w : World) (h : RC A w v c) (h' : RC B w v' c) :
    Calls Tryz.prog 16 #[v, v'] w (Ret fun r w' => r = .bool true ∧ Chg No w w') := by
  obtain ⟨pv, mv, rfl, hp, hmk⟩ := h
  obtain ⟨pv', mv', rfl, hp', hmk'⟩ := h'
  obtain ⟨pa, pn, pc, rfl⟩ := hp.shape
  obtain ⟨ma, mn, mc, rfl⟩ := hmk.shape
  obtain ⟨pa', pn', pc', rfl⟩ := hp'.shape
  obtain ⟨ma', mn', mc', rfl⟩ := hmk'.shape
  go_enter Tryz.func16, Tryz.ntmps16
  go_wp2_with fail
  refine boxes2 (R := fun W => Calls _ _ _ W _) (fun W hW b0 b1 => ?_)
  refine (vInts_same A B _ _ _ W (hp.keep hW) (hp'.keep hW)).mono ?_
  rintro e w1 ⟨_, rfl, rfl, k1⟩
  have b0 := b0.keep k1
  have b1 := b1.keep k1
  have hW := hW.keep k1
  obtain ⟨c0, c1, c2, c3, c4, _⟩ := id b0
  obtain ⟨d0, d1, d2, d3, d4, _⟩ := id b1
  go_wp2_with fail
  refine (vInts_same A B _ _ _ _ (hmk.keep hW) (hmk'.keep hW)).mono ?_
  rintro e w2 ⟨_, rfl, rfl, k2⟩
  have b0 := b0.keep k2
  have b1 := b1.keep k2
  have hW := hW.keep k2
  clear c0 c1 c2 c3 c4 d0 d1 d2 d3 d4
  obtain ⟨c0, c1, c2, c3, c4, _⟩ := id b0
  obtain ⟨d0, d1, d2, d3, d4, _⟩ := id b1
  go_wp2_with fail
  go_ret
  exact ⟨_, rfl, rfl, hW⟩

end Go.Proofs.YtegipldajbkjfaaGreat
