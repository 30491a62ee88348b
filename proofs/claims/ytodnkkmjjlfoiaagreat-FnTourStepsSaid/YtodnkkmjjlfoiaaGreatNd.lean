import Derived.Test.YtodnkkmjjlfoiaaGreatNc
import Derived.Test.YtodnkkmjjlfoiaaGreatUg
/- what is drawn for the laws over Tournaments; Tournaments compared -/
namespace Go.Proofs.YtodnkkmjjlfoiaaGreat
open Go.RowKit

set_option maxRecDepth 100000 in
set_option maxHeartbeats 4000000 in
theorem vTour_same (v v' : Value) (t : To) (w : World) (h : RT No w v t) (h' : RT No w v' t) :
    Calls Tryz.prog 19 #[v, v'] w (Ret fun r w' => r = .bool true ∧ Chg No w w') := by
  obtain ⟨it, ps, rq⟩ := t
  obtain ⟨pv, rv, rfl, hps, hrq⟩ := h
  obtain ⟨pv', rv', rfl, hps', hrq'⟩ := h'
  simp only at hps hrq hps' hrq' ⊢
  obtain ⟨ra, rn, rc, rfl⟩ := hrq.shape
  obtain ⟨ra', rn', rc', rfl⟩ := hrq'.shape
  obtain ⟨a, cap, rfl, hcap, hmax, hlen, pf, mf, hl, hcl⟩ := id hps
  obtain ⟨a', cap', rfl, hcap', hmax', _, pf', mf', hl', hcl'⟩ := id hps'
  obtain ⟨kk, b0, b1⟩ := boxes32 (w := w) (t := 31) (t' := 31) (x0 := .int .i64 it) (x1 := .slice a ps.length cap) (x2 := .slice ra rn rc) (y0 := .int .i64 it) (y1 := .slice a' ps.length cap') (y2 := .slice ra' rn' rc')
    (R := fun W => Chg No w W ∧ Box3 W w.heap.size (.int .i64 it) (.slice a ps.length cap) (.slice ra rn rc) ∧ Box3 W (w.heap.size + 1) (.int .i64 it) (.slice a' ps.length cap') (.slice ra' rn' rc')) (fun W k b0 b1 => ⟨k, b0, b1⟩)
  obtain ⟨c0, c1, c2, _⟩ := id b0
  obtain ⟨d0, d1, d2, _⟩ := id b1
  have HL := Lib.hid hl
  have HC := Lib.hid hcl
  have HL' := Lib.hid hl'
  have HC' := Lib.hid hcl'
  clear hl hcl hl' hcl'
  go_enter Tryz.func19, Tryz.ntmps19
  go_wp2_with fail
  refine (vInts_same No No _ _ rq _ (hrq.keep kk) (hrq'.keep kk)).mono ?_
  rintro e w1 ⟨_, rfl, rfl, k1⟩
  replace kk := kk.keep k1
  replace b0 := b0.keep k1
  replace b1 := b1.keep k1
  clear c0 c1 c2 d0 d1 d2 k1 hrq hrq' hps hps'
  obtain ⟨c0, c1, c2, _⟩ := id b0
  obtain ⟨d0, d1, d2, _⟩ := id b1
  go_wp2_with fail
  clear c0 c1 c2 d0 d1 d2
  go_loopw [5] (fun i wr => ∃ j : Nat, j ≤ ps.length ∧ i = .int .i64 j ∧ Box3 wr w.heap.size (.int .i64 it) (.slice a ps.length cap) (.slice ra rn rc) ∧ Box3 wr (w.heap.size + 1) (.int .i64 it) (.slice a' ps.length cap') (.slice ra' rn' rc') ∧ Chg No w wr) (fun i _ => ps.length - (intOf i).toNat)
  case atStart => exact ⟨0, Nat.zero_le _, rfl, b0, b1, kk⟩
  case round =>
    clear b0 b1 kk
    obtain ⟨j, hj, rfl, b0, b1, hch⟩ := hrel
    obtain ⟨c0, c1, c2, _⟩ := id b0
    by_cases hlt : j < ps.length
    · obtain ⟨b, off, rfl, _, hb, hcell⟩ := HC.out (by intro e; simp [e] at hlt)
      obtain ⟨b', off', rfl, _, hb', hcell'⟩ := HC'.out (by intro e; simp [e] at hlt)
      have h7 := hcell j hlt
      have h7' := hcell' j hlt
      obtain ⟨hpj, hmj⟩ := HL.out j hlt
      obtain ⟨hpj', hmj'⟩ := HL'.out j hlt
      obtain ⟨y, hy⟩ : ∃ y, ps.getD j dPl = y := ⟨_, rfl⟩
      rw [hy] at h7 hpj hmj h7' hpj' hmj'
      clear hcell hcell' hy
      have hj0 : (0 : Int) ≤ (j : Int) := Int.natCast_nonneg _
      have hj1 : (j : Int) < (ps.length : Int) := by omega
      have hw1 : IntKind.i64.wrap ((j : Int) + 1) = (j : Int) + 1 := IntWalk.i64_in _ (by omega)
      generalize pf j = pj at hpj h7
      generalize mf j = mj at hmj h7
      generalize pf' j = pj' at hpj' h7'
      generalize mf' j = mj' at hmj' h7'
      obtain ⟨ya, yn, yc, rfl⟩ := hpj.shape
      obtain ⟨za, zn, zc, rfl⟩ := hmj.shape
      obtain ⟨ya', yn', yc', rfl⟩ := hpj'.shape
      obtain ⟨za', zn', zc', rfl⟩ := hmj'.shape
      obtain ⟨C, hC1, hC2⟩ : ∃ C : World → Prop, (∀ W, C W → Chg No w W ∧ Chg No wr W) ∧ (∀ W, Chg No w W → Chg No wr W → C W) := ⟨_, fun _ h => h, fun _ h h' => ⟨h, h'⟩⟩
      have HCELL : Hid (∀ W, C W → W.cell? ⟨w.heap.size, 0, none⟩ = some (.int .i64 it) ∧ W.cell? ⟨w.heap.size, 1, none⟩ = some (.slice (some ⟨b, off, none⟩) ps.length cap) ∧ W.cell? ⟨w.heap.size, 2, none⟩ = some (.slice ra rn rc) ∧
          W.cell? ⟨w.heap.size + 1, 0, none⟩ = some (.int .i64 it) ∧ W.cell? ⟨w.heap.size + 1, 1, none⟩ = some (.slice (some ⟨b', off', none⟩) ps.length cap') ∧ W.cell? ⟨w.heap.size + 1, 2, none⟩ = some (.slice ra' rn' rc') ∧
          W.cell? ⟨b, off + j * 7, none⟩ = some (.int .i64 y.frm) ∧ W.cell? ⟨b, off + j * 7 + 1, none⟩ = some (.int .i64 y.ca.pol) ∧ W.cell? ⟨b, off + j * 7 + 2, none⟩ = some (.int .i64 y.ca.size) ∧ W.cell? ⟨b, off + j * 7 + 3, none⟩ = some (.slice ya yn yc) ∧ W.cell? ⟨b, off + j * 7 + 4, none⟩ = some (.slice za zn zc) ∧ W.cell? ⟨b, off + j * 7 + 5, none⟩ = some (.int .i64 y.ca.hand) ∧ W.cell? ⟨b, off + j * 7 + 6, none⟩ = some (.int .i64 y.fa) ∧
          W.cell? ⟨b', off' + j * 7, none⟩ = some (.int .i64 y.frm) ∧ W.cell? ⟨b', off' + j * 7 + 1, none⟩ = some (.int .i64 y.ca.pol) ∧ W.cell? ⟨b', off' + j * 7 + 2, none⟩ = some (.int .i64 y.ca.size) ∧ W.cell? ⟨b', off' + j * 7 + 3, none⟩ = some (.slice ya' yn' yc') ∧ W.cell? ⟨b', off' + j * 7 + 4, none⟩ = some (.slice za' zn' zc') ∧ W.cell? ⟨b', off' + j * 7 + 5, none⟩ = some (.int .i64 y.ca.hand) ∧ W.cell? ⟨b', off' + j * 7 + 6, none⟩ = some (.int .i64 y.fa)) := Lib.hid (fun W hW => by
        obtain ⟨g2, g5⟩ := hC1 W hW
        have g3 := h7.step g2 hb (fun e => e)
        have g4 := h7'.step g2 hb' (fun e => e)
        have g6 := b0.keep g5
        have g7 := b1.keep g5
        exact ⟨g6.c0, g6.c1, g6.c2, g7.c0, g7.c1, g7.c2, g3.c0, g3.c1, g3.c2, g3.c3, g3.c4, g3.c5, g3.c6, g4.c0, g4.c1, g4.c2, g4.c3, g4.c4, g4.c5, g4.c6⟩)
      have HX := Lib.hid hC1
      have HI := Lib.hid hC2
      have hC0 := hC2 _ hch.drew (Chg.refl No wr).drew
      clear hC1 hC2 h7 h7'
      go_wp2_with fail
      refine wp_region_X C (by kernel_rfl) (by kernel_rfl) hC0 ?_
      clear hC0 c0 c1 c2
      refine wpX_val (.pointer (some ⟨w.heap.size, 1, none⟩)) rfl (by intro W hW; obtain ⟨g0, g1, g2, q0, q1, q2, d0, d1, d2, d3, d4, d5, d6, e0, e1, e2, e3, e4, e5, e6⟩ := HCELL.out W hW; go_simp) ?_
      simp only [Act.put, List.setIfInBounds_toArray, List.set_cons_zero, List.set_cons_succ]
      refine wpX_val (.slice (some ⟨b, off, none⟩) ps.length cap) rfl (by intro W hW; obtain ⟨g0, g1, g2, q0, q1, q2, d0, d1, d2, d3, d4, d5, d6, e0, e1, e2, e3, e4, e5, e6⟩ := HCELL.out W hW; go_simp) ?_
      simp only [Act.put, List.setIfInBounds_toArray, List.set_cons_zero, List.set_cons_succ]
      refine wpX_val (.int .i64 j) rfl (by intro W hW; obtain ⟨g0, g1, g2, q0, q1, q2, d0, d1, d2, d3, d4, d5, d6, e0, e1, e2, e3, e4, e5, e6⟩ := HCELL.out W hW; go_simp) ?_
      simp only [Act.put, List.setIfInBounds_toArray, List.set_cons_zero, List.set_cons_succ]
      refine wpX_val (.pointer (some ⟨b, off + j * 7, none⟩)) rfl (by intro W hW; obtain ⟨g0, g1, g2, q0, q1, q2, d0, d1, d2, d3, d4, d5, d6, e0, e1, e2, e3, e4, e5, e6⟩ := HCELL.out W hW; go_simp) ?_
      simp only [Act.put, List.setIfInBounds_toArray, List.set_cons_zero, List.set_cons_succ]
      refine wpX_val (.pointer (some ⟨b, off + j * 7, none⟩)) rfl (by intro W hW; obtain ⟨g0, g1, g2, q0, q1, q2, d0, d1, d2, d3, d4, d5, d6, e0, e1, e2, e3, e4, e5, e6⟩ := HCELL.out W hW; go_simp) ?_
      simp only [Act.put, List.setIfInBounds_toArray, List.set_cons_zero, List.set_cons_succ]
      refine wpX_val (.int .i64 y.frm) rfl (by intro W hW; obtain ⟨g0, g1, g2, q0, q1, q2, d0, d1, d2, d3, d4, d5, d6, e0, e1, e2, e3, e4, e5, e6⟩ := HCELL.out W hW; go_simp) ?_
      simp only [Act.put, List.setIfInBounds_toArray, List.set_cons_zero, List.set_cons_succ]
      refine wpX_val (.pointer (some ⟨w.heap.size + 1, 1, none⟩)) rfl (by intro W hW; obtain ⟨g0, g1, g2, q0, q1, q2, d0, d1, d2, d3, d4, d5, d6, e0, e1, e2, e3, e4, e5, e6⟩ := HCELL.out W hW; go_simp) ?_
      simp only [Act.put, List.setIfInBounds_toArray, List.set_cons_zero, List.set_cons_succ]
      refine wpX_val (.slice (some ⟨b', off', none⟩) ps.length cap') rfl (by intro W hW; obtain ⟨g0, g1, g2, q0, q1, q2, d0, d1, d2, d3, d4, d5, d6, e0, e1, e2, e3, e4, e5, e6⟩ := HCELL.out W hW; go_simp) ?_
      simp only [Act.put, List.setIfInBounds_toArray, List.set_cons_zero, List.set_cons_succ]
      refine wpX_val (.int .i64 j) rfl (by intro W hW; obtain ⟨g0, g1, g2, q0, q1, q2, d0, d1, d2, d3, d4, d5, d6, e0, e1, e2, e3, e4, e5, e6⟩ := HCELL.out W hW; go_simp) ?_
      simp only [Act.put, List.setIfInBounds_toArray, List.set_cons_zero, List.set_cons_succ]
      refine wpX_val (.pointer (some ⟨b', off' + j * 7, none⟩)) rfl (by intro W hW; obtain ⟨g0, g1, g2, q0, q1, q2, d0, d1, d2, d3, d4, d5, d6, e0, e1, e2, e3, e4, e5, e6⟩ := HCELL.out W hW; go_simp) ?_
      simp only [Act.put, List.setIfInBounds_toArray, List.set_cons_zero, List.set_cons_succ]
      refine wpX_val (.pointer (some ⟨b', off' + j * 7, none⟩)) rfl (by intro W hW; obtain ⟨g0, g1, g2, q0, q1, q2, d0, d1, d2, d3, d4, d5, d6, e0, e1, e2, e3, e4, e5, e6⟩ := HCELL.out W hW; go_simp) ?_
      simp only [Act.put, List.setIfInBounds_toArray, List.set_cons_zero, List.set_cons_succ]
      refine wpX_val (.int .i64 y.frm) rfl (by intro W hW; obtain ⟨g0, g1, g2, q0, q1, q2, d0, d1, d2, d3, d4, d5, d6, e0, e1, e2, e3, e4, e5, e6⟩ := HCELL.out W hW; go_simp) ?_
      simp only [Act.put, List.setIfInBounds_toArray, List.set_cons_zero, List.set_cons_succ]
      refine wpX_val (.bool false) rfl (by intro W hW; obtain ⟨g0, g1, g2, q0, q1, q2, d0, d1, d2, d3, d4, d5, d6, e0, e1, e2, e3, e4, e5, e6⟩ := HCELL.out W hW; go_simp) ?_
      simp only [Act.put, List.setIfInBounds_toArray, List.set_cons_zero, List.set_cons_succ]
      refine wpX_val (.bool false) rfl (by intro W hW; obtain ⟨g0, g1, g2, q0, q1, q2, d0, d1, d2, d3, d4, d5, d6, e0, e1, e2, e3, e4, e5, e6⟩ := HCELL.out W hW; go_simp) ?_
      simp only [Act.put, List.setIfInBounds_toArray, List.set_cons_zero, List.set_cons_succ]
      refine wpX_val (.pointer (some ⟨w.heap.size, 1, none⟩)) rfl (by intro W hW; obtain ⟨g0, g1, g2, q0, q1, q2, d0, d1, d2, d3, d4, d5, d6, e0, e1, e2, e3, e4, e5, e6⟩ := HCELL.out W hW; go_simp) ?_
      simp only [Act.put, List.setIfInBounds_toArray, List.set_cons_zero, List.set_cons_succ]
      refine wpX_val (.slice (some ⟨b, off, none⟩) ps.length cap) rfl (by intro W hW; obtain ⟨g0, g1, g2, q0, q1, q2, d0, d1, d2, d3, d4, d5, d6, e0, e1, e2, e3, e4, e5, e6⟩ := HCELL.out W hW; go_simp) ?_
      simp only [Act.put, List.setIfInBounds_toArray, List.set_cons_zero, List.set_cons_succ]
      refine wpX_val (.int .i64 j) rfl (by intro W hW; obtain ⟨g0, g1, g2, q0, q1, q2, d0, d1, d2, d3, d4, d5, d6, e0, e1, e2, e3, e4, e5, e6⟩ := HCELL.out W hW; go_simp) ?_
      simp only [Act.put, List.setIfInBounds_toArray, List.set_cons_zero, List.set_cons_succ]
      refine wpX_val (.pointer (some ⟨b, off + j * 7, none⟩)) rfl (by intro W hW; obtain ⟨g0, g1, g2, q0, q1, q2, d0, d1, d2, d3, d4, d5, d6, e0, e1, e2, e3, e4, e5, e6⟩ := HCELL.out W hW; go_simp) ?_
      simp only [Act.put, List.setIfInBounds_toArray, List.set_cons_zero, List.set_cons_succ]
      refine wpX_val (.pointer (some ⟨b, off + j * 7 + 6, none⟩)) rfl (by intro W hW; obtain ⟨g0, g1, g2, q0, q1, q2, d0, d1, d2, d3, d4, d5, d6, e0, e1, e2, e3, e4, e5, e6⟩ := HCELL.out W hW; go_simp) ?_
      simp only [Act.put, List.setIfInBounds_toArray, List.set_cons_zero, List.set_cons_succ]
      refine wpX_val (.int .i64 y.fa) rfl (by intro W hW; obtain ⟨g0, g1, g2, q0, q1, q2, d0, d1, d2, d3, d4, d5, d6, e0, e1, e2, e3, e4, e5, e6⟩ := HCELL.out W hW; go_simp) ?_
      simp only [Act.put, List.setIfInBounds_toArray, List.set_cons_zero, List.set_cons_succ]
      refine wpX_val (.pointer (some ⟨w.heap.size + 1, 1, none⟩)) rfl (by intro W hW; obtain ⟨g0, g1, g2, q0, q1, q2, d0, d1, d2, d3, d4, d5, d6, e0, e1, e2, e3, e4, e5, e6⟩ := HCELL.out W hW; go_simp) ?_
      simp only [Act.put, List.setIfInBounds_toArray, List.set_cons_zero, List.set_cons_succ]
      refine wpX_val (.slice (some ⟨b', off', none⟩) ps.length cap') rfl (by intro W hW; obtain ⟨g0, g1, g2, q0, q1, q2, d0, d1, d2, d3, d4, d5, d6, e0, e1, e2, e3, e4, e5, e6⟩ := HCELL.out W hW; go_simp) ?_
      simp only [Act.put, List.setIfInBounds_toArray, List.set_cons_zero, List.set_cons_succ]
      refine wpX_val (.int .i64 j) rfl (by intro W hW; obtain ⟨g0, g1, g2, q0, q1, q2, d0, d1, d2, d3, d4, d5, d6, e0, e1, e2, e3, e4, e5, e6⟩ := HCELL.out W hW; go_simp) ?_
      simp only [Act.put, List.setIfInBounds_toArray, List.set_cons_zero, List.set_cons_succ]
      refine wpX_val (.pointer (some ⟨b', off' + j * 7, none⟩)) rfl (by intro W hW; obtain ⟨g0, g1, g2, q0, q1, q2, d0, d1, d2, d3, d4, d5, d6, e0, e1, e2, e3, e4, e5, e6⟩ := HCELL.out W hW; go_simp) ?_
      simp only [Act.put, List.setIfInBounds_toArray, List.set_cons_zero, List.set_cons_succ]
      refine wpX_val (.pointer (some ⟨b', off' + j * 7 + 6, none⟩)) rfl (by intro W hW; obtain ⟨g0, g1, g2, q0, q1, q2, d0, d1, d2, d3, d4, d5, d6, e0, e1, e2, e3, e4, e5, e6⟩ := HCELL.out W hW; go_simp) ?_
      simp only [Act.put, List.setIfInBounds_toArray, List.set_cons_zero, List.set_cons_succ]
      refine wpX_val (.int .i64 y.fa) rfl (by intro W hW; obtain ⟨g0, g1, g2, q0, q1, q2, d0, d1, d2, d3, d4, d5, d6, e0, e1, e2, e3, e4, e5, e6⟩ := HCELL.out W hW; go_simp) ?_
      simp only [Act.put, List.setIfInBounds_toArray, List.set_cons_zero, List.set_cons_succ]
      refine wpX_val (.bool false) rfl (by intro W hW; obtain ⟨g0, g1, g2, q0, q1, q2, d0, d1, d2, d3, d4, d5, d6, e0, e1, e2, e3, e4, e5, e6⟩ := HCELL.out W hW; go_simp) ?_
      simp only [Act.put, List.setIfInBounds_toArray, List.set_cons_zero, List.set_cons_succ]
      refine wpX_val (.bool false) rfl (by intro W hW; obtain ⟨g0, g1, g2, q0, q1, q2, d0, d1, d2, d3, d4, d5, d6, e0, e1, e2, e3, e4, e5, e6⟩ := HCELL.out W hW; go_simp) ?_
      simp only [Act.put, List.setIfInBounds_toArray, List.set_cons_zero, List.set_cons_succ]
      refine wpX_val (.bool false) rfl (by intro W hW; obtain ⟨g0, g1, g2, q0, q1, q2, d0, d1, d2, d3, d4, d5, d6, e0, e1, e2, e3, e4, e5, e6⟩ := HCELL.out W hW; go_simp) ?_
      simp only [Act.put, List.setIfInBounds_toArray, List.set_cons_zero, List.set_cons_succ]
      refine wpX_val (.pointer (some ⟨w.heap.size, 1, none⟩)) rfl (by intro W hW; obtain ⟨g0, g1, g2, q0, q1, q2, d0, d1, d2, d3, d4, d5, d6, e0, e1, e2, e3, e4, e5, e6⟩ := HCELL.out W hW; go_simp) ?_
      simp only [Act.put, List.setIfInBounds_toArray, List.set_cons_zero, List.set_cons_succ]
      refine wpX_val (.slice (some ⟨b, off, none⟩) ps.length cap) rfl (by intro W hW; obtain ⟨g0, g1, g2, q0, q1, q2, d0, d1, d2, d3, d4, d5, d6, e0, e1, e2, e3, e4, e5, e6⟩ := HCELL.out W hW; go_simp) ?_
      simp only [Act.put, List.setIfInBounds_toArray, List.set_cons_zero, List.set_cons_succ]
      refine wpX_val (.int .i64 j) rfl (by intro W hW; obtain ⟨g0, g1, g2, q0, q1, q2, d0, d1, d2, d3, d4, d5, d6, e0, e1, e2, e3, e4, e5, e6⟩ := HCELL.out W hW; go_simp) ?_
      simp only [Act.put, List.setIfInBounds_toArray, List.set_cons_zero, List.set_cons_succ]
      refine wpX_val (.pointer (some ⟨b, off + j * 7, none⟩)) rfl (by intro W hW; obtain ⟨g0, g1, g2, q0, q1, q2, d0, d1, d2, d3, d4, d5, d6, e0, e1, e2, e3, e4, e5, e6⟩ := HCELL.out W hW; go_simp) ?_
      simp only [Act.put, List.setIfInBounds_toArray, List.set_cons_zero, List.set_cons_succ]
      refine wpX_val (.pointer (some ⟨b, off + j * 7 + 1, none⟩)) rfl (by intro W hW; obtain ⟨g0, g1, g2, q0, q1, q2, d0, d1, d2, d3, d4, d5, d6, e0, e1, e2, e3, e4, e5, e6⟩ := HCELL.out W hW; go_simp) ?_
      simp only [Act.put, List.setIfInBounds_toArray, List.set_cons_zero, List.set_cons_succ]
      refine wpX_val (.agg #[.int .i64 y.ca.pol, .int .i64 y.ca.size, .slice ya yn yc, .slice za zn zc, .int .i64 y.ca.hand]) rfl (by intro W hW; obtain ⟨g0, g1, g2, q0, q1, q2, d0, d1, d2, d3, d4, d5, d6, e0, e1, e2, e3, e4, e5, e6⟩ := HCELL.out W hW; go_simp) ?_
      simp only [Act.put, List.setIfInBounds_toArray, List.set_cons_zero, List.set_cons_succ]
      refine wpX_val (.pointer (some ⟨w.heap.size + 1, 1, none⟩)) rfl (by intro W hW; obtain ⟨g0, g1, g2, q0, q1, q2, d0, d1, d2, d3, d4, d5, d6, e0, e1, e2, e3, e4, e5, e6⟩ := HCELL.out W hW; go_simp) ?_
      simp only [Act.put, List.setIfInBounds_toArray, List.set_cons_zero, List.set_cons_succ]
      refine wpX_val (.slice (some ⟨b', off', none⟩) ps.length cap') rfl (by intro W hW; obtain ⟨g0, g1, g2, q0, q1, q2, d0, d1, d2, d3, d4, d5, d6, e0, e1, e2, e3, e4, e5, e6⟩ := HCELL.out W hW; go_simp) ?_
      simp only [Act.put, List.setIfInBounds_toArray, List.set_cons_zero, List.set_cons_succ]
      refine wpX_val (.int .i64 j) rfl (by intro W hW; obtain ⟨g0, g1, g2, q0, q1, q2, d0, d1, d2, d3, d4, d5, d6, e0, e1, e2, e3, e4, e5, e6⟩ := HCELL.out W hW; go_simp) ?_
      simp only [Act.put, List.setIfInBounds_toArray, List.set_cons_zero, List.set_cons_succ]
      refine wpX_val (.pointer (some ⟨b', off' + j * 7, none⟩)) rfl (by intro W hW; obtain ⟨g0, g1, g2, q0, q1, q2, d0, d1, d2, d3, d4, d5, d6, e0, e1, e2, e3, e4, e5, e6⟩ := HCELL.out W hW; go_simp) ?_
      simp only [Act.put, List.setIfInBounds_toArray, List.set_cons_zero, List.set_cons_succ]
      refine wpX_val (.pointer (some ⟨b', off' + j * 7 + 1, none⟩)) rfl (by intro W hW; obtain ⟨g0, g1, g2, q0, q1, q2, d0, d1, d2, d3, d4, d5, d6, e0, e1, e2, e3, e4, e5, e6⟩ := HCELL.out W hW; go_simp) ?_
      simp only [Act.put, List.setIfInBounds_toArray, List.set_cons_zero, List.set_cons_succ]
      refine wpX_val ((.agg #[.int .i64 y.ca.pol, .int .i64 y.ca.size, .slice ya' yn' yc', .slice za' zn' zc', .int .i64 y.ca.hand])) rfl (by intro W hW; obtain ⟨g0, g1, g2, q0, q1, q2, d0, d1, d2, d3, d4, d5, d6, e0, e1, e2, e3, e4, e5, e6⟩ := HCELL.out W hW; go_simp) ?_
      simp only [Act.put, List.setIfInBounds_toArray, List.set_cons_zero, List.set_cons_succ]
      refine wpX_call (.bool true) (f := 60) (args := #[.agg #[.int .i64 y.ca.pol, .int .i64 y.ca.size, .slice ya yn yc, .slice za zn zc, .int .i64 y.ca.hand], .agg #[.int .i64 y.ca.pol, .int .i64 y.ca.size, .slice ya' yn' yc', .slice za' zn' zc', .int .i64 y.ca.hand]]) rfl (by intro W hW; go_simp)
        (fun W hW => (vCache_same No No _ _ y.ca W ⟨_, _, rfl, hpj.keep (HX.out W hW).1, hmj.keep (HX.out W hW).1⟩ ⟨_, _, rfl, hpj'.keep (HX.out W hW).1, hmj'.keep (HX.out W hW).1⟩).mono (by rintro e w' ⟨_, rfl, rfl, hk⟩; exact ⟨rfl, HI.out _ ((HX.out W hW).1.keep hk) ((HX.out W hW).2.keep hk)⟩)) ?_
      simp only [Act.put, List.setIfInBounds_toArray, List.set_cons_zero, List.set_cons_succ]
      refine wpX_val (.bool false) rfl (by intro W hW; obtain ⟨g0, g1, g2, q0, q1, q2, d0, d1, d2, d3, d4, d5, d6, e0, e1, e2, e3, e4, e5, e6⟩ := HCELL.out W hW; go_simp) ?_
      simp only [Act.put, List.setIfInBounds_toArray, List.set_cons_zero, List.set_cons_succ]
      refine wpX_val (.bool false) rfl (by intro W hW; obtain ⟨g0, g1, g2, q0, q1, q2, d0, d1, d2, d3, d4, d5, d6, e0, e1, e2, e3, e4, e5, e6⟩ := HCELL.out W hW; go_simp) ?_
      simp only [Act.put, List.setIfInBounds_toArray, List.set_cons_zero, List.set_cons_succ]
      refine wpX_nil (fun W hW => ?_)
      obtain ⟨g2, g5⟩ := HX.out W hW
      replace b0 := b0.keep g5
      replace b1 := b1.keep g5
      go_wp2_with fail
      go_round
      case rel => exact ⟨j + 1, by omega, by go_num, b0, b1, g2⟩
      case measure => simp [intOf]; omega
    · have hjl : j = ps.length := by omega
      subst hjl
      go_wp2_with fail
      go_ret
      exact ⟨_, rfl, rfl, hch⟩
theorem RT.fresh {A : Nat → Prop} {w : World} {v : Value} {t : To} (h : RT A w v t) : RT (fun q => A q ∨ w.heap.size ≤ q) w v t := by
  obtain ⟨pv, rv, rfl, h1, h2⟩ := h
  exact ⟨_, _, rfl, h1.weak (fun q e hl => by rcases e with e | e; exact e; omega), h2.weak (fun q e hl => by rcases e with e | e; exact e; omega)⟩
theorem RT.weakS {A B : Nat → Prop} {w : World} {v : Value} {t : To} (h : RT A w v t) (hB : ∀ q, B q → q < w.heap.size → A q) : RT B w v t := by
  obtain ⟨pv, rv, rfl, h1, h2⟩ := h
  exact ⟨_, _, rfl, h1.weak hB, h2.weak hB⟩
theorem RT.step {A T : Nat → Prop} {w w' : World} {v : Value} {t : To} (h : RT A w v t) (hc : Chg T w w') (hT : ∀ k, T k → A k) : RT A w' v t := by
  obtain ⟨pv, rv, rfl, h1, h2⟩ := h
  exact ⟨_, _, rfl, h1.step hc hT, h2.step hc hT⟩
theorem RT.no {A : Nat → Prop} {w : World} {v : Value} {t : To} (h : RT A w v t) : RT No w v t := h.weakS (fun _ e _ => e.elim)
theorem OSS.snoc {base : Nat} {w' : World} {v' : Value} {ss : List St3} {cs : List Value} {s : St3} (hlen : ss.length ≤ 1000) (hl : cs.length = ss.length * 3)
    (hc : ∀ i, i < ss.length → cs.getD (i * 3) undef = .int .i64 (ss.getD i dSt).k ∧ cs.getD (i * 3 + 1) undef = .int .i64 (ss.getD i dSt).a ∧ cs.getD (i * 3 + 2) undef = .int .i64 (ss.getD i dSt).b)
    (ho : OS 49 3 base w' v' (ss.length + 1) (cs ++ [.int .i64 s.k, .int .i64 s.a, .int .i64 s.b])) : OSS base w' v' (ss ++ [s]) := by
  have e : (ss ++ [s]).length = ss.length + 1 := by simp
  refine ⟨_, e ▸ ho, by omega, fun i hi => ?_⟩
  rw [e] at hi
  by_cases h : i < ss.length
  · have hg : (ss ++ [s]).getD i dSt = ss.getD i dSt := by rw [getD_appL, if_pos h]
    rw [hg, getD_appL, getD_appL, getD_appL, if_pos (by omega), if_pos (by omega), if_pos (by omega)]
    exact hc i h
  · have hi' : i = ss.length := by omega
    subst hi'
    have hg : (ss ++ [s]).getD ss.length dSt = s := by rw [getD_appL, if_neg (by omega)]; simp
    rw [hg, getD_appL, getD_appL, getD_appL, if_neg (by omega), if_neg (by omega), if_neg (by omega), hl]
    simp
set_option maxRecDepth 100000 in
set_option maxHeartbeats 4000000 in
theorem DrawPlaySteps_any (v : Value) (n : Nat) (w : World) (h : Code w v n) (hn : n ≤ 70001) :
    Calls Tryz.prog 18 #[v] w fun e w' => ∃ (v0 v1 : Value) (t : To) (ss : List St3), e = .returned (.tuple #[v0, v1]) ∧ RT No w' v0 t ∧ RSS No w' v1 ss ∧ Chg No w w' := by
  obtain ⟨a, cp, rfl⟩ := h.shape
  have b0 := Box3.new w (.int .i64 0) (.slice none 0 0) (.slice none 0 0) 31
  have k0 := (Chg.refl No w).alloc (.cells #[.int .i64 0, .slice none 0 0, .slice none 0 0] 31)
  have h1 := h.keep k0
  have hc := Cur.new h1 (by omega) 94
  have k1 := (Chg.refl No (w.alloc (.cells #[.int .i64 0, .slice none 0 0, .slice none 0 0] 31))).alloc (.cells #[.slice a n cp, .int .i64 0, .int .u64 0] 94)
  have hz : (w.alloc (.cells #[.int .i64 0, .slice none 0 0, .slice none 0 0] 31)).heap.size = w.heap.size + 1 := World.size_alloc _ _
  have hz1 := World.size_alloc (w.alloc (.cells #[.int .i64 0, .slice none 0 0, .slice none 0 0] 31)) (.cells #[.slice a n cp, .int .i64 0, .int .u64 0] 94)
  rw [hz] at hc hz1
  replace b0 := b0.keep k1
  have kk := k0.trans k1
  clear h h1 k0 k1 hz
  go_enter Tryz.func18, Tryz.ntmps18
  go_wp2_with fail
  generalize (w.alloc (.cells #[.int .i64 0, .slice none 0 0, .slice none 0 0] 31)).alloc (.cells #[.slice a n cp, .int .i64 0, .int .u64 0] 94) = W0 at hc kk b0 hz1 ⊢
  refine (tour_any (w.heap.size + 1) (w.heap.size + 1 + 1) 0 W0 hc (by omega) (by omega)).mono ?_
  rintro e w1 ⟨v0, t, rfl, hT, ht12, ht61, hc1, hk1⟩
  have hs1 := hk1.size
  have kk1 := kk.step hk1 (fun q e hl => by have e : q = w.heap.size + 1 := e; omega)
  replace b0 := b0.step hk1 (fun e => by have e : w.heap.size = w.heap.size + 1 := e; omega)
  obtain ⟨pv, rv, hv0, hps, hrq⟩ := id hT
  obtain ⟨p1, p3, rfl, _⟩ := id hps
  obtain ⟨r1, r3, rfl, _⟩ := id hrq
  subst hv0
  have hT1 := hT.fresh
  clear hT hps hrq hc kk hk1
  have bT := Box3.new w1 (.int .i64 t.items) (.slice p1 t.ps.length p3) (.slice r1 t.reqs.length r3) 31
  have ka := (Chg.refl No w1).alloc (.cells #[.int .i64 t.items, .slice p1 t.ps.length p3, .slice r1 t.reqs.length r3] 31)
  have kb := (Chg.refl No (w1.alloc (.cells #[.int .i64 t.items, .slice p1 t.ps.length p3, .slice r1 t.reqs.length r3] 31))).alloc (.cells #[] 49)
  have hzz : (w1.alloc (.cells #[.int .i64 t.items, .slice p1 t.ps.length p3, .slice r1 t.reqs.length r3] 31)).heap.size = w1.heap.size + 1 := World.size_alloc _ _
  have hO : OSS (w1.heap.size + 1) ((w1.alloc (.cells #[.int .i64 t.items, .slice p1 t.ps.length p3, .slice r1 t.reqs.length r3] 31)).alloc (.cells #[] 49)) (.slice (some ⟨w1.heap.size + 1, 0, none⟩) 0 0) [] := by
    have := OS.zero (E := 49) (sz := 3) (base := w1.heap.size + 1) (w := w1.alloc (.cells #[.int .i64 t.items, .slice p1 t.ps.length p3, .slice r1 t.reqs.length r3] 31)) (by omega)
    rw [hzz] at this
    exact ⟨[], this, by simp, fun i hi => absurd hi (Nat.not_lt_zero i)⟩
  replace bT := bT.keep kb
  have kab := ka.trans kb
  replace b0 := b0.keep kab
  replace kk1 := kk1.keep kab
  replace hc1 := hc1.keep kab
  replace hT1 := hT1.keep kab
  clear ka kb kab hzz
  go_wp2_with fail
  generalize (w1.alloc (.cells #[.int .i64 t.items, .slice p1 t.ps.length p3, .slice r1 t.reqs.length r3] 31)).alloc (.cells #[] 49) = W1 at bT hO b0 kk1 hc1 hT1 ⊢
  obtain ⟨M, hM⟩ : ∃ M, w1.heap.size = M := ⟨_, rfl⟩
  rw [hM] at bT hO hT1 hs1 ⊢
  clear hM
  have hMC : w.heap.size + 1 < M := by omega
  refine (pick_any _ _ _ 6 _ hc1 (by omega) (by omega)).mono ?_
  rintro e w2 ⟨k0, rfl, hk0, hk1, _, hc2, hk2⟩
  have hk5 := hk1 (by omega)
  replace bT := bT.step hk2 (by omega)
  replace hO := hO.step hk2 (fun q hq e => by have := (hO.lt q hq).1; omega)
  replace b0 := b0.step hk2 (by omega)
  replace kk1 := kk1.step hk2 (fun q e hl => by have e : q = w.heap.size + 1 := e; omega)
  replace hT1 := (hT1.weakS (B := fun q => q = w.heap.size ∨ q = w.heap.size + 1 ∨ M ≤ q) (fun q e hl => by rcases e with e | e | e; exact .inl (by omega); exact .inl (by omega); exact .inr e)).step hk2 (fun q e => .inr (.inl e))
  clear hk2 hk1
  go_wp2_with fail
  go_loopw [6, 7] (fun s k wr => ∃ (m : Int) (ss : List St3) (K' : Nat), k = .int .i64 m ∧ 0 ≤ m ∧ m ≤ 5 ∧ ((ss.length : Int) + m ≤ 5) ∧ OSS (M + 1) wr s ss ∧ (K' : Int) + 100 * m ≤ 100000 ∧ Cur wr (w.heap.size + 1) (w.heap.size + 1 + 1) K' ∧ Box3 wr M (.int .i64 t.items) (.slice p1 t.ps.length p3) (.slice r1 t.reqs.length r3) ∧
    RT (fun q => q = w.heap.size ∨ q = w.heap.size + 1 ∨ M ≤ q) wr (.agg #[.int .i64 t.items, .slice p1 t.ps.length p3, .slice r1 t.reqs.length r3]) t ∧ Box3 wr w.heap.size (.int .i64 0) (.slice none 0 0) (.slice none 0 0) ∧ Chg No w wr) (fun _ k _ => (intOf k).toNat)
  case atStart => exact ⟨k0, [], _, rfl, hk0, by omega, by simp; omega, hO, by push_cast; omega, hc2, bT, hT1, b0, kk1⟩
  case round =>
    clear bT hO b0 kk1 hT1 hc2 hk0 hk5 hc1
    obtain ⟨m, ss, K', rfl, hm0, hm5, hsm, hO, hK', hc, bT, hT, b0, kk⟩ := hrel
    obtain ⟨cs, hOS, hsl, hcs⟩ := hO
    obtain ⟨sa, sq, rfl, _⟩ := hOS.view
    obtain ⟨c0, c1, c2, _⟩ := id bT
    by_cases hlt : 0 < m
    · have hwm : IntKind.i64.wrap (m - 1) = m - 1 := IntWalk.i64_in _ (by omega)
      go_wp2_with fail
      have hMw := bT.lt
      refine (step12_any (w.heap.size + 1) (w.heap.size + 1 + 1) K' _ t wr hc (by omega) (by omega) (hT.weakS (fun q e _ => .inr (.inl e))) (by omega)).mono ?_
      rintro e w3 ⟨k, p, q, rfl, hc3, hk3⟩
      clear c0 c1 c2
      have hOS3 := hOS.step hk3 (fun q hq e => by have := (hOS.lt q hq).1; omega)
      replace bT := bT.step hk3 (by omega)
      replace b0 := b0.step hk3 (by omega)
      replace kk := kk.step hk3 (fun q e hl => by have e : q = w.heap.size + 1 := e; omega)
      replace hT := hT.step hk3 (fun q e => .inr (.inl e))
      have hs3 := hk3.size
      clear hk3 hc hOS
      go_wp2_with (at_builtin; refine wappS1 elSteps (by omega) rfl (.tmp 20) (.tmp 24) rfl hOS3 rfl (by simp [Value.oneCell']) rfl rfl (by omega) (by omega) ?_)
      intro v' wN oN kN hnN
      have hge : ∀ q, own (.slice sa ss.length sq) q → M + 1 ≤ q := fun q hq => (hOS3.lt q hq).1
      have hON := OSS.snoc (s := ⟨k, p, q⟩) (by omega) hOS3.cl hcs oN
      have HE := Lib.hid (And.intro hON (And.intro (hc3.step kN (fun q hq => by have := hge q hq; omega)) (And.intro (bT.step kN (fun e => by have := hge _ e; omega)) (And.intro (hT.step kN (fun q e => .inr (.inr (by have := hge q e; omega)))) (And.intro (b0.step kN (fun e => by have := hge _ e; omega)) (kk.step kN (fun q e hl => by have := hge q e; omega)))))))
      clear hON hc3 bT hT b0 kk kN hnN hOS3 hge
      go_wp2_with fail
      go_round
      case measure => simp [intOf]; omega
      case rel => exact ⟨m - 1, ss ++ [⟨k, p, q⟩], _, by go_num, by omega, by omega, by simp; omega, HE.out.1, by push_cast; omega, HE.out.2.1, HE.out.2.2.1, HE.out.2.2.2.1, HE.out.2.2.2.2.1, HE.out.2.2.2.2.2⟩
    · have hm : m = 0 := by omega
      subst hm
      have hfin : OSS (M + 1) wr (.slice sa ss.length sq) ss := ⟨cs, hOS, hsl, hcs⟩
      have ch := (Chg.refl (fun q => q = w.heap.size) wr).put3 (b := w.heap.size) (fun _ => rfl) (.int .i64 t.items) (.slice p1 t.ps.length p3) (.slice r1 t.reqs.length r3)
      obtain ⟨e0, e1, e2, ef⟩ := id b0
      have ef0 := ef 0
      have ef1 := ef 1
      have ef2 := ef 2
      clear ef
      obtain ⟨z0, z1, z2, _⟩ := ((b0.set0 (.int .i64 t.items)).set1 (.slice p1 t.ps.length p3)).set2 (.slice r1 t.reqs.length r3)
      have HE := Lib.hid (And.intro ((hT.step ch (fun q e => .inl e)).no) (And.intro ((hfin.step ch (fun q hq e => by have := (hfin.lt q hq).1; omega)).read (A := No) (fun _ _ e => e)) (kk.step ch (fun q e hl => by have e : q = w.heap.size := e; omega))))
      clear hlt hT hfin ch bT b0 kk hOS hcs hc
      go_wp2_with fail
      exact bodyPost_ret (v := .tuple #[.agg #[.int .i64 t.items, .slice p1 t.ps.length p3, .slice r1 t.reqs.length r3], .slice sa ss.length sq]) (by simp [results, Tryz.results18, go_sem, z0, z1, z2]) rfl ⟨_, _, t, ss, rfl, HE.out.1, HE.out.2.1, HE.out.2.2⟩
end Go.Proofs.YtodnkkmjjlfoiaaGreat
