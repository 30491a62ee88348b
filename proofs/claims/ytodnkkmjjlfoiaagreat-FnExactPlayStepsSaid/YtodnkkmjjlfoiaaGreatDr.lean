import Derived.Test.YtodnkkmjjlfoiaaGreatDo
/- rows of TourSteps: compared, marked -/
namespace Go.Proofs.YtodnkkmjjlfoiaaGreat
open Go.RowKit

set_option maxRecDepth 100000 in
set_option maxHeartbeats 2000000 in
theorem eqTourStepS_same (v v' : Value) (ss : List St3) (w : World) (h : RSS No w v ss) (h' : RSS No w v' ss) :
    Calls Tryz.prog 13 #[v, v'] w (Ret fun r w' => r = .bool true ∧ Chg No w w') := by
  obtain ⟨a, cap, rfl, hcap, hmax, hlen, hcl⟩ := id h
  obtain ⟨a', cap', rfl, hcap', hmax', _, hcl'⟩ := id h'
  have HC := Lib.hid hcl
  have HC' := Lib.hid hcl'
  clear hcl hcl'
  go_enter Tryz.func13, Tryz.ntmps13
  go_wp2_with fail
  go_loopw [5] (fun i wr => ∃ j : Nat, j ≤ ss.length ∧ i = .int .i64 j ∧ Chg No w wr) (fun i _ => ss.length - (intOf i).toNat)
  case atStart => exact ⟨0, Nat.zero_le _, rfl, Chg.refl No w⟩
  case round =>
    obtain ⟨j, hj, rfl, hch⟩ := hrel
    by_cases hlt : j < ss.length
    · obtain ⟨b, off, rfl, _, hb, hcell⟩ := HC.out (by intro e; simp [e] at hlt)
      obtain ⟨b', off', rfl, _, hb', hcell'⟩ := HC'.out (by intro e; simp [e] at hlt)
      have h7 := hcell j hlt
      have h7' := hcell' j hlt
      obtain ⟨y, hy⟩ : ∃ y, ss.getD j dSt = y := ⟨_, rfl⟩
      rw [hy] at h7 h7'
      clear hcell hcell' hy
      have hj0 : (0 : Int) ≤ (j : Int) := Int.natCast_nonneg _
      have hj1 : (j : Int) < (ss.length : Int) := by omega
      have hw1 : IntKind.i64.wrap ((j : Int) + 1) = (j : Int) + 1 := IntWalk.i64_in _ (by omega)
      obtain ⟨C, hC1, hC2⟩ : ∃ C : World → Prop, (∀ W, C W → Chg No w W) ∧ (∀ W, Chg No w W → C W) := ⟨_, fun _ h => h, fun _ h => h⟩
      have HCELL : Hid (∀ W, C W → W.cell? ⟨b, off + j * 3, none⟩ = some (.int .i64 y.k) ∧ W.cell? ⟨b, off + j * 3 + 1, none⟩ = some (.int .i64 y.a) ∧ W.cell? ⟨b, off + j * 3 + 2, none⟩ = some (.int .i64 y.b) ∧
          W.cell? ⟨b', off' + j * 3, none⟩ = some (.int .i64 y.k) ∧ W.cell? ⟨b', off' + j * 3 + 1, none⟩ = some (.int .i64 y.a) ∧ W.cell? ⟨b', off' + j * 3 + 2, none⟩ = some (.int .i64 y.b)) := Lib.hid (fun W hW => by
        have g2 := hC1 W hW
        have g3 := h7.step g2 hb (fun e => e)
        have g4 := h7'.step g2 hb' (fun e => e)
        exact ⟨g3.c0, g3.c1, g3.c2, g4.c0, g4.c1, g4.c2⟩)
      have HX := Lib.hid hC1
      have HI := Lib.hid hC2
      have hC0 := hC2 _ hch.drew
      clear hC1 hC2 h7 h7'
      go_wp2_with fail
      refine wp_region_X C (by kernel_rfl) (by kernel_rfl) hC0 ?_
      clear hC0
      refine wpX_val (.slice (some ⟨b, off, none⟩) ss.length cap) rfl (by intro W hW; obtain ⟨c0, c1, c2, d0, d1, d2⟩ := HCELL.out W hW; go_simp) ?_
      simp only [Act.put, List.setIfInBounds_toArray, List.set_cons_zero, List.set_cons_succ]
      refine wpX_val (.int .i64 j) rfl (by intro W hW; obtain ⟨c0, c1, c2, d0, d1, d2⟩ := HCELL.out W hW; go_simp) ?_
      simp only [Act.put, List.setIfInBounds_toArray, List.set_cons_zero, List.set_cons_succ]
      refine wpX_val (.pointer (some ⟨b, off + j * 3, none⟩)) rfl (by intro W hW; obtain ⟨c0, c1, c2, d0, d1, d2⟩ := HCELL.out W hW; go_simp) ?_
      simp only [Act.put, List.setIfInBounds_toArray, List.set_cons_zero, List.set_cons_succ]
      refine wpX_val (.agg #[.int .i64 y.k, .int .i64 y.a, .int .i64 y.b]) rfl (by intro W hW; obtain ⟨c0, c1, c2, d0, d1, d2⟩ := HCELL.out W hW; go_simp) ?_
      simp only [Act.put, List.setIfInBounds_toArray, List.set_cons_zero, List.set_cons_succ]
      refine wpX_val (.slice (some ⟨b', off', none⟩) ss.length cap') rfl (by intro W hW; obtain ⟨c0, c1, c2, d0, d1, d2⟩ := HCELL.out W hW; go_simp) ?_
      simp only [Act.put, List.setIfInBounds_toArray, List.set_cons_zero, List.set_cons_succ]
      refine wpX_val (.int .i64 j) rfl (by intro W hW; obtain ⟨c0, c1, c2, d0, d1, d2⟩ := HCELL.out W hW; go_simp) ?_
      simp only [Act.put, List.setIfInBounds_toArray, List.set_cons_zero, List.set_cons_succ]
      refine wpX_val (.pointer (some ⟨b', off' + j * 3, none⟩)) rfl (by intro W hW; obtain ⟨c0, c1, c2, d0, d1, d2⟩ := HCELL.out W hW; go_simp) ?_
      simp only [Act.put, List.setIfInBounds_toArray, List.set_cons_zero, List.set_cons_succ]
      refine wpX_val (.agg #[.int .i64 y.k, .int .i64 y.a, .int .i64 y.b]) rfl (by intro W hW; obtain ⟨c0, c1, c2, d0, d1, d2⟩ := HCELL.out W hW; go_simp) ?_
      simp only [Act.put, List.setIfInBounds_toArray, List.set_cons_zero, List.set_cons_succ]
      refine wpX_call (.bool true) (f := 51) (args := #[.agg #[.int .i64 y.k, .int .i64 y.a, .int .i64 y.b], .agg #[.int .i64 y.k, .int .i64 y.a, .int .i64 y.b]]) rfl (by intro W hW; go_simp)
        (fun W hW => (eqTourStep_same y.k y.a y.b W).mono (by rintro e w' ⟨_, rfl, rfl, hk⟩; exact ⟨rfl, HI.out _ ((HX.out W hW).keep hk)⟩)) ?_
      simp only [Act.put, List.setIfInBounds_toArray, List.set_cons_zero, List.set_cons_succ]
      refine wpX_val (.bool false) rfl (by intro W hW; obtain ⟨c0, c1, c2, d0, d1, d2⟩ := HCELL.out W hW; go_simp) ?_
      simp only [Act.put, List.setIfInBounds_toArray, List.set_cons_zero, List.set_cons_succ]
      refine wpX_nil (fun W hW => ?_)
      have g2 := HX.out W hW
      go_wp2_with fail
      go_round
      case rel => exact ⟨j + 1, by omega, by go_num, g2⟩
      case measure => simp [intOf]; omega
    · have hjl : j = ss.length := by omega
      subst hjl
      go_wp2_with fail
      go_ret
      exact ⟨_, rfl, rfl, hch⟩

set_option maxRecDepth 100000 in
set_option maxHeartbeats 2000000 in
theorem markTourStepS_any (base : Nat) (v : Value) (ss : List St3) (k : Int) (w : World) (h : OSS base w v ss) (hk : 0 ≤ k) (hk2 : k ≤ 1000000000) :
    Calls Tryz.prog 15 #[v, .int .i64 k] w (Ret fun r w' => r = .int .i64 (k + 3 * (ss.length : Int)) ∧ Chg (own v) w w') := by
  obtain ⟨cs, ho, hlen, _⟩ := h
  obtain ⟨a, cap, rfl, hcap, hmax, h0, hv⟩ := ho.view
  have hcl := ho.cl
  have HV := Lib.hid hv
  clear hv
  go_enter Tryz.func15, Tryz.ntmps15
  go_wp2_with fail
  go_loopw [1, 5] (fun q i wr => ∃ (j : Nat) (ds : List Value), j ≤ ss.length ∧ i = .int .i64 j ∧ q = .int .i64 (k + 3 * (j : Int)) ∧ OS 49 3 base wr (.slice a ss.length cap) ss.length ds ∧ Chg (own (.slice a ss.length cap)) w wr) (fun _ i _ => ss.length - (intOf i).toNat)
  case atStart => exact ⟨0, cs, Nat.zero_le _, rfl, by simp, ho, Chg.refl _ w⟩
  case round =>
    clear ho
    obtain ⟨j, ds, hj, rfl, rfl, ho, hch⟩ := hrel
    by_cases hlt : j < ss.length
    · obtain ⟨g, rfl, _⟩ := HV.out (by omega)
      have hdl := ho.cl
      have hcells : ∀ r, r < 3 → ∃ u, wr.cell? ⟨g, j * 3 + r, none⟩ = some u := fun r hr => ⟨_, ho.at.1 (j * 3 + r) (by rw [hdl]; omega)⟩
      have hfz := ho.at.2.1
      obtain ⟨u0, hu0⟩ := hcells 0 (by omega)
      have fz0 := hfz (j * 3 + 0)
      rw [Nat.add_zero] at hu0 fz0
      obtain ⟨u1, hu1⟩ := hcells 1 (by omega)
      have fz1 := hfz (j * 3 + 1)
      obtain ⟨u2, hu2⟩ := hcells 2 (by omega)
      have fz2 := hfz (j * 3 + 2)
      have hj0 : (0 : Int) ≤ (j : Int) := Int.natCast_nonneg _
      have hj1 : (j : Int) < (ss.length : Int) := by omega
      obtain ⟨q0, hq0⟩ : ∃ q0 : Int, k + 3 * (j : Int) = q0 := ⟨_, rfl⟩
      have hqb : 0 ≤ q0 ∧ q0 ≤ 2000000000 := by omega
      have HQ := Lib.hid hq0
      rw [hq0]
      have hw0 : IntKind.i64.wrap (q0 + 1) = q0 + 1 := IntWalk.i64_in _ (by omega)
      have hw2 : IntKind.i64.wrap (q0 + 1 + 1) = q0 + 1 + 1 := IntWalk.i64_in _ (by omega)
      have hw3 : IntKind.i64.wrap (q0 + 1 + 1 + 1) = q0 + 1 + 1 + 1 := IntWalk.i64_in _ (by omega)
      have hw1 : IntKind.i64.wrap ((j : Int) + 1) = (j : Int) + 1 := IntWalk.i64_in _ (by omega)
      obtain ⟨oN, kN⟩ := ho.store3 (j * 3) (.int .i64 q0) (.int .i64 (q0 + 1)) (.int .i64 (q0 + 1 + 1))
      have HEND := Lib.hid (And.intro oN (hch.trans (kN.mono (fun q e _ => by have e : q = g := e; subst e; exact own_slice.2 rfl))))
      clear oN kN hcells hfz ho hch hq0 hdl
      go_wp2_with fail
      go_round
      case measure => simp [intOf]; omega
      case rel => exact ⟨j + 1, _, by omega, by go_num, by have := HQ.out; push_cast; congr 1; omega, HEND.out.1, HEND.out.2⟩
    · have hje : j = ss.length := by omega
      subst hje
      go_wp2_with fail
      go_ret
      exact ⟨_, rfl, rfl, hch⟩
end Go.Proofs.YtodnkkmjjlfoiaaGreat
