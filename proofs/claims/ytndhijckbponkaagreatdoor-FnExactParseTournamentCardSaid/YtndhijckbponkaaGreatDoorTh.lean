import Derived.Test.YtndhijckbponkaaGreatDoorPkX5
/- what the laws' helpers do with a Tournament -/
namespace Go.Proofs.YtndhijckbponkaaGreatDoor
open Go.RowKit

theorem RPS.step {A T : Nat → Prop} {w w' : World} {v : Value} {ls : List Pl} (h : RPS A w v ls) (hc : Chg T w w') (hT : ∀ k, T k → A k) : RPS A w' v ls := by
  obtain ⟨a, cap, rfl, h1, h2, h3, pf, mf, h4, h5⟩ := h
  refine ⟨a, cap, rfl, h1, h2, h3, pf, mf, fun i hi => ⟨(h4 i hi).1.step hc hT, (h4 i hi).2.step hc hT⟩, fun hl => ?_⟩
  obtain ⟨b, off, rfl, hA, hb, hcell⟩ := h5 hl
  exact ⟨b, off, rfl, hA, Nat.lt_of_lt_of_le hb hc.size, fun i hi => (hcell i hi).step hc hb (fun e => hA (hT b e))⟩
theorem RPS.weak {A B : Nat → Prop} {w : World} {v : Value} {ls : List Pl} (h : RPS A w v ls) (hB : ∀ k, B k → k < w.heap.size → A k) : RPS B w v ls := by
  obtain ⟨a, cap, rfl, h1, h2, h3, pf, mf, h4, h5⟩ := h
  refine ⟨a, cap, rfl, h1, h2, h3, pf, mf, fun i hi => ⟨(h4 i hi).1.weak hB, (h4 i hi).2.weak hB⟩, fun hl => ?_⟩
  obtain ⟨b, off, rfl, hA, hb, hcell⟩ := h5 hl
  exact ⟨b, off, rfl, fun e => hA (hB b e hb), hb, hcell⟩
theorem RPS.shape {A : Nat → Prop} {w : World} {v : Value} {ls : List Pl} (h : RPS A w v ls) : ∃ a n c, v = .slice a n c := by
  obtain ⟨a, cap, rfl, _⟩ := h; exact ⟨_, _, _, rfl⟩
theorem Box3.at {w : World} {b n : Nat} {v0 v1 v2 : Value} (h : Box3 w b v0 v1 v2) (e : b = n) : Box3 w n v0 v1 v2 := e ▸ h
theorem Box3.far {w : World} {b : Nat} {v0 v1 v2 : Value} (h : Box3 w b v0 v1 v2) (p : Addr) (x : Value) (hp : p.block ≠ b) : Box3 (w.setCell p x) b v0 v1 v2 :=
  h.step (S := fun k => k = p.block) ((Chg.refl (fun k => k = p.block) w).setCell (p := p) (fun _ => rfl) x) (fun e => hp e.symm)
theorem Box3.set0 {w : World} {b : Nat} {v0 v1 v2 : Value} (h : Box3 w b v0 v1 v2) (x : Value) : Box3 (w.setCell ⟨b, 0, none⟩ x) b x v1 v2 :=
  ⟨World.cell?_setCell_same _ _ _ h.c0, (World.cell?_setCell_other _ _ _ _ (by simp)).trans h.c1, (World.cell?_setCell_other _ _ _ _ (by simp)).trans h.c2, fun o => (World.frozen?_setCell _ _ _ _).trans (h.fr o)⟩
theorem Box3.set1 {w : World} {b : Nat} {v0 v1 v2 : Value} (h : Box3 w b v0 v1 v2) (x : Value) : Box3 (w.setCell ⟨b, 1, none⟩ x) b v0 x v2 :=
  ⟨(World.cell?_setCell_other _ _ _ _ (by simp)).trans h.c0, World.cell?_setCell_same _ _ _ h.c1, (World.cell?_setCell_other _ _ _ _ (by simp)).trans h.c2, fun o => (World.frozen?_setCell _ _ _ _).trans (h.fr o)⟩
theorem Box3.set2 {w : World} {b : Nat} {v0 v1 v2 : Value} (h : Box3 w b v0 v1 v2) (x : Value) : Box3 (w.setCell ⟨b, 2, none⟩ x) b v0 v1 x :=
  ⟨(World.cell?_setCell_other _ _ _ _ (by simp)).trans h.c0, (World.cell?_setCell_other _ _ _ _ (by simp)).trans h.c1, World.cell?_setCell_same _ _ _ h.c2, fun o => (World.frozen?_setCell _ _ _ _).trans (h.fr o)⟩
theorem boxes32 {w : World} {t t' : TypeId} {x0 x1 x2 y0 y1 y2 : Value} {R : World → Prop} (h : ∀ W, Chg No w W → Box3 W w.heap.size x0 x1 x2 → Box3 W (w.heap.size + 1) y0 y1 y2 → R W) :
    R ((w.alloc (.cells #[x0, x1, x2] t)).alloc (.cells #[y0, y1, y2] t')) :=
  h _ (((Chg.refl No w).alloc _).alloc _) ((Box3.new w _ _ _ t).keep ((Chg.refl No _).alloc _)) ((Box3.new (w.alloc (.cells #[x0, x1, x2] t)) _ _ _ t').at (by simp))

set_option maxRecDepth 100000 in
set_option maxHeartbeats 2000000 in
theorem eqPlayerS_same (v v' : Value) (ls : List Pl) (w : World) (h : RPS No w v ls) (h' : RPS No w v' ls) :
    Calls Tryz.prog 35 #[v, v'] w (Ret fun r w' => r = .bool true ∧ Chg No w w') := by
  obtain ⟨a, cap, rfl, hcap, hmax, hlen, pf, mf, hl, hcl⟩ := id h
  obtain ⟨a', cap', rfl, hcap', hmax', _, pf', mf', hl', hcl'⟩ := id h'
  have HL := Lib.hid hl
  have HC := Lib.hid hcl
  have HL' := Lib.hid hl'
  have HC' := Lib.hid hcl'
  clear hl hcl hl' hcl'
  go_enter Tryz.func35, Tryz.ntmps35
  go_wp2_with fail
  go_loopw [5] (fun i wr => ∃ j : Nat, j ≤ ls.length ∧ i = .int .i64 j ∧ Chg No w wr) (fun i _ => ls.length - (intOf i).toNat)
  case atStart => exact ⟨0, Nat.zero_le _, rfl, Chg.refl No w⟩
  case round =>
    obtain ⟨j, hj, rfl, hch⟩ := hrel
    by_cases hlt : j < ls.length
    · obtain ⟨b, off, rfl, _, hb, hcell⟩ := HC.out (by intro e; simp [e] at hlt)
      obtain ⟨b', off', rfl, _, hb', hcell'⟩ := HC'.out (by intro e; simp [e] at hlt)
      have h7 := hcell j hlt
      have h7' := hcell' j hlt
      obtain ⟨hpj, hmj⟩ := HL.out j hlt
      obtain ⟨hpj', hmj'⟩ := HL'.out j hlt
      obtain ⟨y, hy⟩ : ∃ y, ls.getD j dPl = y := ⟨_, rfl⟩
      rw [hy] at h7 hpj hmj h7' hpj' hmj'
      clear hcell hcell' hy
      have hj0 : (0 : Int) ≤ (j : Int) := Int.natCast_nonneg _
      have hj1 : (j : Int) < (ls.length : Int) := by omega
      have hw1 : IntKind.i64.wrap ((j : Int) + 1) = (j : Int) + 1 := IntWalk.i64_in _ (by omega)
      generalize pf j = pj at hpj h7
      generalize mf j = mj at hmj h7
      generalize pf' j = pj' at hpj' h7'
      generalize mf' j = mj' at hmj' h7'
      obtain ⟨ya, yn, yc, rfl⟩ := hpj.shape
      obtain ⟨za, zn, zc, rfl⟩ := hmj.shape
      obtain ⟨ya', yn', yc', rfl⟩ := hpj'.shape
      obtain ⟨za', zn', zc', rfl⟩ := hmj'.shape
      obtain ⟨C, hC1, hC2⟩ : ∃ C : World → Prop, (∀ W, C W → Chg No w W) ∧ (∀ W, Chg No w W → C W) := ⟨_, fun _ h => h, fun _ h => h⟩
      have HCELL : Hid (∀ W, C W → W.cell? ⟨b, off + j * 7, none⟩ = some (.int .i64 y.frm) ∧ W.cell? ⟨b, off + j * 7 + 1, none⟩ = some (.int .i64 y.ca.pol) ∧ W.cell? ⟨b, off + j * 7 + 2, none⟩ = some (.int .i64 y.ca.size) ∧ W.cell? ⟨b, off + j * 7 + 3, none⟩ = some (.slice ya yn yc) ∧
          W.cell? ⟨b, off + j * 7 + 4, none⟩ = some (.slice za zn zc) ∧ W.cell? ⟨b, off + j * 7 + 5, none⟩ = some (.int .i64 y.ca.hand) ∧ W.cell? ⟨b, off + j * 7 + 6, none⟩ = some (.int .i64 y.fa) ∧
          W.cell? ⟨b', off' + j * 7, none⟩ = some (.int .i64 y.frm) ∧ W.cell? ⟨b', off' + j * 7 + 1, none⟩ = some (.int .i64 y.ca.pol) ∧ W.cell? ⟨b', off' + j * 7 + 2, none⟩ = some (.int .i64 y.ca.size) ∧ W.cell? ⟨b', off' + j * 7 + 3, none⟩ = some (.slice ya' yn' yc') ∧
          W.cell? ⟨b', off' + j * 7 + 4, none⟩ = some (.slice za' zn' zc') ∧ W.cell? ⟨b', off' + j * 7 + 5, none⟩ = some (.int .i64 y.ca.hand) ∧ W.cell? ⟨b', off' + j * 7 + 6, none⟩ = some (.int .i64 y.fa) ∧ True) := Lib.hid (fun W hW => by
        have g2 := hC1 W hW
        have g3 := h7.step g2 hb (fun e => e)
        have g4 := h7'.step g2 hb' (fun e => e)
        exact ⟨g3.c0, g3.c1, g3.c2, g3.c3, g3.c4, g3.c5, g3.c6, g4.c0, g4.c1, g4.c2, g4.c3, g4.c4, g4.c5, g4.c6, trivial⟩)
      have HX := Lib.hid hC1
      have HI := Lib.hid hC2
      have hC0 := hC2 _ hch.drew
      clear hC1 hC2 h7 h7'
      go_wp2_with fail
      refine wp_region_X C (by kernel_rfl) (by kernel_rfl) hC0 ?_
      clear hC0
      refine wpX_val (.slice (some ⟨b, off, none⟩) ls.length cap) rfl (by intro W hW; obtain ⟨d0, d1, d2, d3, d4, d5, d6, e0, e1, e2, e3, e4, e5, e6, _⟩ := HCELL.out W hW; go_simp) ?_
      simp only [Act.put, List.setIfInBounds_toArray, List.set_cons_zero, List.set_cons_succ]
      refine wpX_val (.int .i64 j) rfl (by intro W hW; obtain ⟨d0, d1, d2, d3, d4, d5, d6, e0, e1, e2, e3, e4, e5, e6, _⟩ := HCELL.out W hW; go_simp) ?_
      simp only [Act.put, List.setIfInBounds_toArray, List.set_cons_zero, List.set_cons_succ]
      refine wpX_val (.pointer (some ⟨b, off + j * 7, none⟩)) rfl (by intro W hW; obtain ⟨d0, d1, d2, d3, d4, d5, d6, e0, e1, e2, e3, e4, e5, e6, _⟩ := HCELL.out W hW; go_simp) ?_
      simp only [Act.put, List.setIfInBounds_toArray, List.set_cons_zero, List.set_cons_succ]
      refine wpX_val (.agg #[.int .i64 y.frm, .int .i64 y.ca.pol, .int .i64 y.ca.size, .slice ya yn yc, .slice za zn zc, .int .i64 y.ca.hand, .int .i64 y.fa]) rfl (by intro W hW; obtain ⟨d0, d1, d2, d3, d4, d5, d6, e0, e1, e2, e3, e4, e5, e6, _⟩ := HCELL.out W hW; go_simp) ?_
      simp only [Act.put, List.setIfInBounds_toArray, List.set_cons_zero, List.set_cons_succ]
      refine wpX_val (.slice (some ⟨b', off', none⟩) ls.length cap') rfl (by intro W hW; obtain ⟨d0, d1, d2, d3, d4, d5, d6, e0, e1, e2, e3, e4, e5, e6, _⟩ := HCELL.out W hW; go_simp) ?_
      simp only [Act.put, List.setIfInBounds_toArray, List.set_cons_zero, List.set_cons_succ]
      refine wpX_val (.int .i64 j) rfl (by intro W hW; obtain ⟨d0, d1, d2, d3, d4, d5, d6, e0, e1, e2, e3, e4, e5, e6, _⟩ := HCELL.out W hW; go_simp) ?_
      simp only [Act.put, List.setIfInBounds_toArray, List.set_cons_zero, List.set_cons_succ]
      refine wpX_val (.pointer (some ⟨b', off' + j * 7, none⟩)) rfl (by intro W hW; obtain ⟨d0, d1, d2, d3, d4, d5, d6, e0, e1, e2, e3, e4, e5, e6, _⟩ := HCELL.out W hW; go_simp) ?_
      simp only [Act.put, List.setIfInBounds_toArray, List.set_cons_zero, List.set_cons_succ]
      refine wpX_val (.agg #[.int .i64 y.frm, .int .i64 y.ca.pol, .int .i64 y.ca.size, .slice ya' yn' yc', .slice za' zn' zc', .int .i64 y.ca.hand, .int .i64 y.fa]) rfl (by intro W hW; obtain ⟨d0, d1, d2, d3, d4, d5, d6, e0, e1, e2, e3, e4, e5, e6, _⟩ := HCELL.out W hW; go_simp) ?_
      simp only [Act.put, List.setIfInBounds_toArray, List.set_cons_zero, List.set_cons_succ]
      refine wpX_call (.bool true) (f := 79) (args := #[.agg #[.int .i64 y.frm, .int .i64 y.ca.pol, .int .i64 y.ca.size, .slice ya yn yc, .slice za zn zc, .int .i64 y.ca.hand, .int .i64 y.fa], .agg #[.int .i64 y.frm, .int .i64 y.ca.pol, .int .i64 y.ca.size, .slice ya' yn' yc', .slice za' zn' zc', .int .i64 y.ca.hand, .int .i64 y.fa]]) rfl (by intro W hW; go_simp)
        (fun W hW => (eqPlayer_same No No _ _ y W ⟨_, _, rfl, hpj.keep (HX.out W hW), hmj.keep (HX.out W hW)⟩ ⟨_, _, rfl, hpj'.keep (HX.out W hW), hmj'.keep (HX.out W hW)⟩).mono (by rintro e w' ⟨_, rfl, rfl, hk⟩; exact ⟨rfl, HI.out _ ((HX.out W hW).keep hk)⟩)) ?_
      simp only [Act.put, List.setIfInBounds_toArray, List.set_cons_zero, List.set_cons_succ]
      refine wpX_val (.bool false) rfl (by intro W hW; obtain ⟨d0, d1, d2, d3, d4, d5, d6, e0, e1, e2, e3, e4, e5, e6, _⟩ := HCELL.out W hW; go_simp) ?_
      simp only [Act.put, List.setIfInBounds_toArray, List.set_cons_zero, List.set_cons_succ]
      refine wpX_nil (fun W hW => ?_)
      have g2 := HX.out W hW
      go_wp2_with fail
      go_round
      case rel => exact ⟨j + 1, by omega, by go_num, g2⟩
      case measure => simp [intOf]; omega
    · have hjl : j = ls.length := by omega
      subst hjl
      go_wp2_with fail
      go_ret
      exact ⟨_, rfl, rfl, hch⟩

set_option maxRecDepth 100000 in
set_option maxHeartbeats 1000000 in
theorem eqTournament_same (v v' : Value) (t : To) (w : World) (h : RT No w v t) (h' : RT No w v' t) :
    Calls Tryz.prog 10 #[v, v'] w (Ret fun r w' => r = .bool true ∧ Chg No w w') := by
  obtain ⟨it, ps, rq⟩ := t
  obtain ⟨pv, rv, rfl, hps, hrq⟩ := h
  obtain ⟨pv', rv', rfl, hps', hrq'⟩ := h'
  simp only at hps hrq hps' hrq' ⊢
  obtain ⟨ra, rn, rc, rfl⟩ := hrq.shape
  obtain ⟨pa, pn, pc, rfl⟩ := hps.shape
  obtain ⟨ra', rn', rc', rfl⟩ := hrq'.shape
  obtain ⟨pa', pn', pc', rfl⟩ := hps'.shape
  go_enter Tryz.func10, Tryz.ntmps10
  go_wp2_with fail
  refine boxes32 (R := fun W => Calls _ _ _ W _) (fun W hW b0 b1 => ?_)
  refine (eqPlayerS_same _ _ ps W (hps.keep hW) (hps'.keep hW)).mono ?_
  rintro e w1 ⟨_, rfl, rfl, k1⟩
  have hW := hW.keep k1
  obtain ⟨c0, c1, c2, _⟩ := b0.keep k1
  obtain ⟨d0, d1, d2, _⟩ := b1.keep k1
  go_wp2_with fail
  refine (eqIntS_same No No _ _ rq w1 (hrq.keep hW) (hrq'.keep hW)).mono ?_
  rintro e w2 ⟨_, rfl, rfl, k2⟩
  go_wp2_with fail
  go_ret
  exact ⟨_, rfl, rfl, hW.keep k2⟩
end Go.Proofs.YtndhijckbponkaaGreatDoor
