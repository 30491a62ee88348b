import Derived.Test.YtdgcohoneijleaaGreatPkX1
namespace Go.Proofs.YtdgcohoneijleaaGreat
open Go.RowKit

/-- a Cache by value -/
def RC (A : Nat → Prop) (w : World) (v : Value) (c : Ca) : Prop :=
  ∃ pv mv, v = .agg #[.int .i64 c.pol, .int .i64 c.size, pv, mv, .int .i64 c.hand] ∧ RI A w pv c.pages ∧ RI A w mv c.marks
theorem RC.step {A T : Nat → Prop} {w w' : World} {v : Value} {c : Ca} (h : RC A w v c) (hc : Chg T w w') (hT : ∀ k, T k → A k) : RC A w' v c := by
  obtain ⟨pv, mv, rfl, h1, h2⟩ := h
  exact ⟨pv, mv, rfl, h1.step hc hT, h2.step hc hT⟩
theorem RC.keep {A : Nat → Prop} {w w' : World} {v : Value} {c : Ca} (h : RC A w v c) (hc : Chg No w w') : RC A w' v c := h.step hc (fun _ hk => hk.elim)

theorem RC.weak {A B : Nat → Prop} {w : World} {v : Value} {c : Ca} (h : RC A w v c) (hB : ∀ k, B k → k < w.heap.size → A k) : RC B w v c := by
  obtain ⟨pv, mv, rfl, h1, h2⟩ := h
  exact ⟨pv, mv, rfl, h1.weak hB, h2.weak hB⟩
/-- a Cache in memory -/
structure Box (w : World) (b : Nat) (v0 v1 v2 v3 v4 : Value) : Prop where
  c0 : w.cell? ⟨b, 0, none⟩ = some v0
  c1 : w.cell? ⟨b, 1, none⟩ = some v1
  c2 : w.cell? ⟨b, 2, none⟩ = some v2
  c3 : w.cell? ⟨b, 3, none⟩ = some v3
  c4 : w.cell? ⟨b, 4, none⟩ = some v4
  fr : ∀ o, w.frozen? ⟨b, o, none⟩ = false
theorem Box.lt {w : World} {b : Nat} {v0 v1 v2 v3 v4 : Value} (h : Box w b v0 v1 v2 v3 v4) : b < w.heap.size := World.block_lt_of_cell? w _ h.c0
theorem Box.step {S : Nat → Prop} {w w' : World} {b : Nat} {v0 v1 v2 v3 v4 : Value} (h : Box w b v0 v1 v2 v3 v4) (hc : Chg S w w') (hS : ¬ S b) : Box w' b v0 v1 v2 v3 v4 := by
  have hb := h.lt
  exact ⟨(hc.cellD b 0 hb hS).trans h.c0, (hc.cellD b 1 hb hS).trans h.c1, (hc.cellD b 2 hb hS).trans h.c2, (hc.cellD b 3 hb hS).trans h.c3, (hc.cellD b 4 hb hS).trans h.c4,
    fun o => (World.frozen?_of_block (hc.block b hb hS)).trans (h.fr o)⟩
theorem Box.keep {w w' : World} {b : Nat} {v0 v1 v2 v3 v4 : Value} (h : Box w b v0 v1 v2 v3 v4) (hc : Chg No w w') : Box w' b v0 v1 v2 v3 v4 := h.step hc (fun e => e)
theorem Box.new (w : World) (v0 v1 v2 v3 v4 : Value) (t : TypeId) : Box (w.alloc (.cells #[v0, v1, v2, v3, v4] t)) w.heap.size v0 v1 v2 v3 v4 := by
  refine ⟨?_, ?_, ?_, ?_, ?_, fun o => World.frozen?_alloc_new _ _ _ _⟩ <;> (rw [World.cell?_alloc_new]; rfl)

theorem Chg.put5 {S : Nat → Prop} {w0 wr : World} (h : Chg S w0 wr) {b : Nat} (hb : b < w0.heap.size → S b) (x0 x1 x2 x3 x4 : Value) :
    Chg S w0 (((((wr.setCell ⟨b, 0, none⟩ x0).setCell ⟨b, 1, none⟩ x1).setCell ⟨b, 2, none⟩ x2).setCell ⟨b, 3, none⟩ x3).setCell ⟨b, 4, none⟩ x4) :=
  ((((h.setCell (p := ⟨b, 0, none⟩) hb x0).setCell (p := ⟨b, 1, none⟩) hb x1).setCell (p := ⟨b, 2, none⟩) hb x2).setCell (p := ⟨b, 3, none⟩) hb x3).setCell (p := ⟨b, 4, none⟩) hb x4
theorem OI.set {base : Nat} {w : World} {v : Value} {l : List Int} (h : OI base w v l) (b o : Nat) (x : Value) (hb : ¬ own v b) : OI base (w.setCell ⟨b, o, none⟩ x) v l :=
  h.step (T := fun k => k = b) ((Chg.refl (fun k => k = b) w).setCell (p := ⟨b, o, none⟩) (fun _ => rfl) x) (fun _ hk e => hb (e ▸ hk))
theorem OI.put5 {base : Nat} {wr : World} {v : Value} {l : List Int} (h : OI base wr v l) {b : Nat} (hb : ∀ k, own v k → k ≠ b) (x0 x1 x2 x3 x4 : Value) :
    OI base (((((wr.setCell ⟨b, 0, none⟩ x0).setCell ⟨b, 1, none⟩ x1).setCell ⟨b, 2, none⟩ x2).setCell ⟨b, 3, none⟩ x3).setCell ⟨b, 4, none⟩ x4) v l :=
  h.step ((Chg.refl (fun k => k = b) wr).put5 (fun _ => rfl) x0 x1 x2 x3 x4) hb

theorem Box.put5 {w : World} {b : Nat} {v0 v1 v2 v3 v4 : Value} (h : Box w b v0 v1 v2 v3 v4) (x0 x1 x2 x3 x4 : Value) :
    Box (((((w.setCell ⟨b, 0, none⟩ x0).setCell ⟨b, 1, none⟩ x1).setCell ⟨b, 2, none⟩ x2).setCell ⟨b, 3, none⟩ x3).setCell ⟨b, 4, none⟩ x4) b x0 x1 x2 x3 x4 := by
  obtain ⟨c0, c1, c2, c3, c4, fr⟩ := h
  have o : ∀ (w : World) (i j : Nat) (x : Value), i ≠ j → (w.setCell ⟨b, i, none⟩ x).cell? ⟨b, j, none⟩ = w.cell? ⟨b, j, none⟩ := fun w i j x hij => World.cell?_setCell_other _ _ _ _ (by simp)
  refine ⟨?_, ?_, ?_, ?_, ?_, fun i => ?_⟩
  · rw [o _ 4 0 _ (by omega), o _ 3 0 _ (by omega), o _ 2 0 _ (by omega), o _ 1 0 _ (by omega)]; exact World.cell?_setCell_same _ _ _ c0
  · rw [o _ 4 1 _ (by omega), o _ 3 1 _ (by omega), o _ 2 1 _ (by omega)]; exact World.cell?_setCell_same _ _ _ ((o _ 0 1 _ (by omega)).trans c1)
  · rw [o _ 4 2 _ (by omega), o _ 3 2 _ (by omega)]; exact World.cell?_setCell_same _ _ _ ((o _ 1 2 _ (by omega)).trans ((o _ 0 2 _ (by omega)).trans c2))
  · rw [o _ 4 3 _ (by omega)]; exact World.cell?_setCell_same _ _ _ ((o _ 2 3 _ (by omega)).trans ((o _ 1 3 _ (by omega)).trans ((o _ 0 3 _ (by omega)).trans c3)))
  · exact World.cell?_setCell_same _ _ _ ((o _ 3 4 _ (by omega)).trans ((o _ 2 4 _ (by omega)).trans ((o _ 1 4 _ (by omega)).trans ((o _ 0 4 _ (by omega)).trans c4))))
  · simp only [World.frozen?_setCell]; exact fr i
theorem RI.put5 {A : Nat → Prop} {wr : World} {v : Value} {l : List Int} {b : Nat} (h : RI (And1 A b) wr v l) (x0 x1 x2 x3 x4 : Value) :
    RI A (((((wr.setCell ⟨b, 0, none⟩ x0).setCell ⟨b, 1, none⟩ x1).setCell ⟨b, 2, none⟩ x2).setCell ⟨b, 3, none⟩ x3).setCell ⟨b, 4, none⟩ x4) v l :=
  (h.step (T := fun k => k = b) ((Chg.refl (fun k => k = b) wr).put5 (fun _ => rfl) x0 x1 x2 x3 x4) (fun _ hk => .inr hk)).weak (fun _ hk _ => .inl hk)

theorem Box.at {w : World} {b n : Nat} {v0 v1 v2 v3 v4 : Value} (h : Box w b v0 v1 v2 v3 v4) (e : b = n) : Box w n v0 v1 v2 v3 v4 := e ▸ h
theorem Box.set2 {w : World} {b : Nat} {v0 v1 v2 v3 v4 : Value} (h : Box w b v0 v1 v2 v3 v4) (x : Value) : Box (w.setCell ⟨b, 2, none⟩ x) b v0 v1 x v3 v4 :=
  ⟨(World.cell?_setCell_other _ _ _ _ (by simp)).trans h.c0, (World.cell?_setCell_other _ _ _ _ (by simp)).trans h.c1, World.cell?_setCell_same _ _ _ h.c2,
   (World.cell?_setCell_other _ _ _ _ (by simp)).trans h.c3, (World.cell?_setCell_other _ _ _ _ (by simp)).trans h.c4, fun o => (World.frozen?_setCell _ _ _ _).trans (h.fr o)⟩
theorem Box.set3 {w : World} {b : Nat} {v0 v1 v2 v3 v4 : Value} (h : Box w b v0 v1 v2 v3 v4) (x : Value) : Box (w.setCell ⟨b, 3, none⟩ x) b v0 v1 v2 x v4 :=
  ⟨(World.cell?_setCell_other _ _ _ _ (by simp)).trans h.c0, (World.cell?_setCell_other _ _ _ _ (by simp)).trans h.c1, (World.cell?_setCell_other _ _ _ _ (by simp)).trans h.c2,
   World.cell?_setCell_same _ _ _ h.c3, (World.cell?_setCell_other _ _ _ _ (by simp)).trans h.c4, fun o => (World.frozen?_setCell _ _ _ _).trans (h.fr o)⟩
theorem Box.set4 {w : World} {b : Nat} {v0 v1 v2 v3 v4 : Value} (h : Box w b v0 v1 v2 v3 v4) (x : Value) : Box (w.setCell ⟨b, 4, none⟩ x) b v0 v1 v2 v3 x :=
  ⟨(World.cell?_setCell_other _ _ _ _ (by simp)).trans h.c0, (World.cell?_setCell_other _ _ _ _ (by simp)).trans h.c1, (World.cell?_setCell_other _ _ _ _ (by simp)).trans h.c2,
   (World.cell?_setCell_other _ _ _ _ (by simp)).trans h.c3, World.cell?_setCell_same _ _ _ h.c4, fun o => (World.frozen?_setCell _ _ _ _).trans (h.fr o)⟩
theorem Box.far {w : World} {b : Nat} {v0 v1 v2 v3 v4 : Value} (h : Box w b v0 v1 v2 v3 v4) (p : Addr) (x : Value) (hp : p.block ≠ b) : Box (w.setCell p x) b v0 v1 v2 v3 v4 :=
  h.step (S := fun k => k = p.block) ((Chg.refl (fun k => k = p.block) w).setCell (p := p) (fun _ => rfl) x) (fun e => hp e.symm)

end Go.Proofs.YtdgcohoneijleaaGreat
