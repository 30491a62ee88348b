import Derived.Test.YtndhijckbponkaaGreatDoorTd
import Derived.Test.YtndhijckbponkaaGreatDoorCd
import Derived.Test.YtndhijckbponkaaGreatDoorDat
/- what the laws' helpers do with a Player -/
namespace Go.Proofs.YtndhijckbponkaaGreatDoor
open Go.RowKit

theorem Box7.set0 {w : World} {b : Nat} {v0 v1 v2 v3 v4 v5 v6 : Value} (h : Box7 w b v0 v1 v2 v3 v4 v5 v6) (x : Value) : Box7 (w.setCell ⟨b, 0, none⟩ x) b x v1 v2 v3 v4 v5 v6 :=
  ⟨World.cell?_setCell_same _ _ _ h.c0, (World.cell?_setCell_other _ _ _ _ (by simp)).trans h.c1, (World.cell?_setCell_other _ _ _ _ (by simp)).trans h.c2, (World.cell?_setCell_other _ _ _ _ (by simp)).trans h.c3, (World.cell?_setCell_other _ _ _ _ (by simp)).trans h.c4, (World.cell?_setCell_other _ _ _ _ (by simp)).trans h.c5, (World.cell?_setCell_other _ _ _ _ (by simp)).trans h.c6, fun o => (World.frozen?_setCell _ _ _ _).trans (h.fr o)⟩
theorem Box7.set1 {w : World} {b : Nat} {v0 v1 v2 v3 v4 v5 v6 : Value} (h : Box7 w b v0 v1 v2 v3 v4 v5 v6) (x : Value) : Box7 (w.setCell ⟨b, 1, none⟩ x) b v0 x v2 v3 v4 v5 v6 :=
  ⟨(World.cell?_setCell_other _ _ _ _ (by simp)).trans h.c0, World.cell?_setCell_same _ _ _ h.c1, (World.cell?_setCell_other _ _ _ _ (by simp)).trans h.c2, (World.cell?_setCell_other _ _ _ _ (by simp)).trans h.c3, (World.cell?_setCell_other _ _ _ _ (by simp)).trans h.c4, (World.cell?_setCell_other _ _ _ _ (by simp)).trans h.c5, (World.cell?_setCell_other _ _ _ _ (by simp)).trans h.c6, fun o => (World.frozen?_setCell _ _ _ _).trans (h.fr o)⟩
theorem Box7.set2 {w : World} {b : Nat} {v0 v1 v2 v3 v4 v5 v6 : Value} (h : Box7 w b v0 v1 v2 v3 v4 v5 v6) (x : Value) : Box7 (w.setCell ⟨b, 2, none⟩ x) b v0 v1 x v3 v4 v5 v6 :=
  ⟨(World.cell?_setCell_other _ _ _ _ (by simp)).trans h.c0, (World.cell?_setCell_other _ _ _ _ (by simp)).trans h.c1, World.cell?_setCell_same _ _ _ h.c2, (World.cell?_setCell_other _ _ _ _ (by simp)).trans h.c3, (World.cell?_setCell_other _ _ _ _ (by simp)).trans h.c4, (World.cell?_setCell_other _ _ _ _ (by simp)).trans h.c5, (World.cell?_setCell_other _ _ _ _ (by simp)).trans h.c6, fun o => (World.frozen?_setCell _ _ _ _).trans (h.fr o)⟩
theorem Box7.set3 {w : World} {b : Nat} {v0 v1 v2 v3 v4 v5 v6 : Value} (h : Box7 w b v0 v1 v2 v3 v4 v5 v6) (x : Value) : Box7 (w.setCell ⟨b, 3, none⟩ x) b v0 v1 v2 x v4 v5 v6 :=
  ⟨(World.cell?_setCell_other _ _ _ _ (by simp)).trans h.c0, (World.cell?_setCell_other _ _ _ _ (by simp)).trans h.c1, (World.cell?_setCell_other _ _ _ _ (by simp)).trans h.c2, World.cell?_setCell_same _ _ _ h.c3, (World.cell?_setCell_other _ _ _ _ (by simp)).trans h.c4, (World.cell?_setCell_other _ _ _ _ (by simp)).trans h.c5, (World.cell?_setCell_other _ _ _ _ (by simp)).trans h.c6, fun o => (World.frozen?_setCell _ _ _ _).trans (h.fr o)⟩
theorem Box7.set4 {w : World} {b : Nat} {v0 v1 v2 v3 v4 v5 v6 : Value} (h : Box7 w b v0 v1 v2 v3 v4 v5 v6) (x : Value) : Box7 (w.setCell ⟨b, 4, none⟩ x) b v0 v1 v2 v3 x v5 v6 :=
  ⟨(World.cell?_setCell_other _ _ _ _ (by simp)).trans h.c0, (World.cell?_setCell_other _ _ _ _ (by simp)).trans h.c1, (World.cell?_setCell_other _ _ _ _ (by simp)).trans h.c2, (World.cell?_setCell_other _ _ _ _ (by simp)).trans h.c3, World.cell?_setCell_same _ _ _ h.c4, (World.cell?_setCell_other _ _ _ _ (by simp)).trans h.c5, (World.cell?_setCell_other _ _ _ _ (by simp)).trans h.c6, fun o => (World.frozen?_setCell _ _ _ _).trans (h.fr o)⟩
theorem boxes72 {w : World} {t t' : TypeId} {x0 x1 x2 x3 x4 x5 x6 y0 y1 y2 y3 y4 y5 y6 : Value} {R : World → Prop} (h : ∀ W, Chg No w W → Box7 W w.heap.size x0 x1 x2 x3 x4 x5 x6 → Box7 W (w.heap.size + 1) y0 y1 y2 y3 y4 y5 y6 → R W) :
    R ((w.alloc (.cells #[x0, x1, x2, x3, x4, x5, x6] t)).alloc (.cells #[y0, y1, y2, y3, y4, y5, y6] t')) :=
  h _ (((Chg.refl No w).alloc _).alloc _) ((Box7.new w _ _ _ _ _ _ _ t).keep ((Chg.refl No _).alloc _))
    ((Box7.new (w.alloc (.cells #[x0, x1, x2, x3, x4, x5, x6] t)) _ _ _ _ _ _ _ t').at (by simp))

set_option maxRecDepth 100000 in
set_option maxHeartbeats 1000000 in
theorem eqPlayer_same (A B : Nat → Prop) (v v' : Value) (x : Pl) (w : World) (h : RP A w v x) (h' : RP B w v' x) :
    Calls Tryz.prog 79 #[v, v'] w (Ret fun r w' => r = .bool true ∧ Chg No w w') := by
  have h0 := h
  have h0' := h'
  obtain ⟨pv, mv, rfl, hp, hmk⟩ := h
  obtain ⟨pv', mv', rfl, hp', hmk'⟩ := h'
  obtain ⟨pa, pn, pc, rfl⟩ := hp.shape
  obtain ⟨ma, mn, mc, rfl⟩ := hmk.shape
  obtain ⟨pa', pn', pc', rfl⟩ := hp'.shape
  obtain ⟨ma', mn', mc', rfl⟩ := hmk'.shape
  go_enter Tryz.func79, Tryz.ntmps79
  go_wp2_with fail
  refine boxes72 (R := fun W => Calls _ _ _ W _) (fun W hW b0 b1 => ?_)
  refine (eqCache_same A B _ _ x.ca W (h0.keep hW).cache (h0'.keep hW).cache).mono ?_
  rintro e w1 ⟨_, rfl, rfl, k1⟩
  obtain ⟨c0, c1, c2, c3, c4, c5, c6, _⟩ := b0.keep k1
  obtain ⟨d0, d1, d2, d3, d4, d5, d6, _⟩ := b1.keep k1
  go_wp2_with fail
  go_ret
  exact ⟨_, rfl, rfl, hW.keep k1⟩

end Go.Proofs.YtndhijckbponkaaGreatDoor

/- what the laws' helpers do with Players in a row -/
namespace Go.Proofs.YtndhijckbponkaaGreatDoor
open Go.RowKit

theorem Cell7.row {w : World} {g o : Nat} (x : Pl) (pv mv : Value) (h : ∀ r, r < 7 → ∃ u, w.cell? ⟨g, o + r, none⟩ = some u) : Cell7 (((((((w.setCell ⟨g, o, none⟩ (.int .i64 x.frm)).setCell ⟨g, o + 1, none⟩ (.int .i64 x.ca.pol)).setCell ⟨g, o + 2, none⟩ (.int .i64 x.ca.size)).setCell ⟨g, o + 3, none⟩ pv).setCell ⟨g, o + 4, none⟩ mv).setCell ⟨g, o + 5, none⟩ (.int .i64 x.ca.hand)).setCell ⟨g, o + 6, none⟩ (.int .i64 x.fa)) g o x pv mv := by
  obtain ⟨u0, h0⟩ := h 0 (by omega)
  obtain ⟨u1, h1⟩ := h 1 (by omega)
  obtain ⟨u2, h2⟩ := h 2 (by omega)
  obtain ⟨u3, h3⟩ := h 3 (by omega)
  obtain ⟨u4, h4⟩ := h 4 (by omega)
  obtain ⟨u5, h5⟩ := h 5 (by omega)
  obtain ⟨u6, h6⟩ := h 6 (by omega)
  rw [Nat.add_zero] at h0
  have e : ∀ (w : World) (i j : Nat) (x : Value), i ≠ j → (w.setCell ⟨g, i, none⟩ x).cell? ⟨g, j, none⟩ = w.cell? ⟨g, j, none⟩ := fun w i j x hij => World.cell?_setCell_other _ _ _ _ (by simp <;> omega)
  refine ⟨?_, ?_, ?_, ?_, ?_, ?_, ?_⟩
  · rw [e _ (o + 6) (o) _ (by omega), e _ (o + 5) (o) _ (by omega), e _ (o + 4) (o) _ (by omega), e _ (o + 3) (o) _ (by omega), e _ (o + 2) (o) _ (by omega), e _ (o + 1) (o) _ (by omega)]; exact World.cell?_setCell_same _ _ _ h0
  · rw [e _ (o + 6) (o + 1) _ (by omega), e _ (o + 5) (o + 1) _ (by omega), e _ (o + 4) (o + 1) _ (by omega), e _ (o + 3) (o + 1) _ (by omega), e _ (o + 2) (o + 1) _ (by omega)]; exact World.cell?_setCell_same _ _ _ ((e _ (o) (o + 1) _ (by omega)).trans h1)
  · rw [e _ (o + 6) (o + 2) _ (by omega), e _ (o + 5) (o + 2) _ (by omega), e _ (o + 4) (o + 2) _ (by omega), e _ (o + 3) (o + 2) _ (by omega)]; exact World.cell?_setCell_same _ _ _ ((e _ (o + 1) (o + 2) _ (by omega)).trans ((e _ (o) (o + 2) _ (by omega)).trans h2))
  · rw [e _ (o + 6) (o + 3) _ (by omega), e _ (o + 5) (o + 3) _ (by omega), e _ (o + 4) (o + 3) _ (by omega)]; exact World.cell?_setCell_same _ _ _ ((e _ (o + 2) (o + 3) _ (by omega)).trans ((e _ (o + 1) (o + 3) _ (by omega)).trans ((e _ (o) (o + 3) _ (by omega)).trans h3)))
  · rw [e _ (o + 6) (o + 4) _ (by omega), e _ (o + 5) (o + 4) _ (by omega)]; exact World.cell?_setCell_same _ _ _ ((e _ (o + 3) (o + 4) _ (by omega)).trans ((e _ (o + 2) (o + 4) _ (by omega)).trans ((e _ (o + 1) (o + 4) _ (by omega)).trans ((e _ (o) (o + 4) _ (by omega)).trans h4))))
  · rw [e _ (o + 6) (o + 5) _ (by omega)]; exact World.cell?_setCell_same _ _ _ ((e _ (o + 4) (o + 5) _ (by omega)).trans ((e _ (o + 3) (o + 5) _ (by omega)).trans ((e _ (o + 2) (o + 5) _ (by omega)).trans ((e _ (o + 1) (o + 5) _ (by omega)).trans ((e _ (o) (o + 5) _ (by omega)).trans h5)))))
  · exact World.cell?_setCell_same _ _ _ ((e _ (o + 5) (o + 6) _ (by omega)).trans ((e _ (o + 4) (o + 6) _ (by omega)).trans ((e _ (o + 3) (o + 6) _ (by omega)).trans ((e _ (o + 2) (o + 6) _ (by omega)).trans ((e _ (o + 1) (o + 6) _ (by omega)).trans ((e _ (o) (o + 6) _ (by omega)).trans h6))))))
theorem elPlayers : El 29 68 (.agg #[.int .i64 0, .int .i64 0, .int .i64 0, .slice none 0 0, .slice none 0 0, .int .i64 0, .int .i64 0]) 7 88 := El.mk' Tryz.underlying29 (by kernel_rfl) rfl (by omega)
end Go.Proofs.YtndhijckbponkaaGreatDoor
