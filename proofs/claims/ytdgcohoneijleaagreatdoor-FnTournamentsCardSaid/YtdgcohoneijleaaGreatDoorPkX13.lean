import Derived.Test.YtdgcohoneijleaaGreatDoorPkX12
import Derived.Test.YtdgcohoneijleaaGreatDoorPkX11
import Derived.Test.YtdgcohoneijleaaGreatDoorPkX2
import Derived.Test.YtdgcohoneijleaaGreatDoorPkX1
namespace Go.Proofs.YtdgcohoneijleaaGreatDoor
open Go.RowKit
theorem Box7.set0 {w : World} {b : Nat} {v0 v1 v2 v3 v4 v5 v6 : Value} (h : Box7 w b v0 v1 v2 v3 v4 v5 v6) (x : Value) : Box7 (w.setCell ⟨b, 0, none⟩ x) b x v1 v2 v3 v4 v5 v6 :=
 ⟨World.cell?_setCell_same _ _ _ h.c0, (World.cell?_setCell_other _ _ _ _ (by simp)).trans h.c1, (World.cell?_setCell_other _ _ _ _ (by simp)).trans h.c2, (World.cell?_setCell_other _ _ _ _ (by simp)).trans h.c3, (World.cell?_setCell_other _ _ _ _ (by simp)).trans h.c4, (World.cell?_setCell_other _ _ _ _ (by simp)).trans h.c5, (World.cell?_setCell_other _ _ _ _ (by simp)).trans h.c6, fun o => (World.frozen?_setCell _ _ _ _).trans (h.fr o)⟩
theorem Box7.set1 {w : World} {b : Nat} {v0 v1 v2 v3 v4 v5 v6 : Value} (h : Box7 w b v0 v1 v2 v3 v4 v5 v6) (x : Value) : Box7 (w.setCell ⟨b, 1, none⟩ x) b v0 x v2 v3 v4 v5 v6 :=
 ⟨(World.cell?_setCell_other _ _ _ _ (by simp)).trans h.c0, World.cell?_setCell_same _ _ _ h.c1, (World.cell?_setCell_other _ _ _ _ (by simp)).trans h.c2, (World.cell?_setCell_other _ _ _ _ (by simp)).trans h.c3, (World.cell?_setCell_other _ _ _ _ (by simp)).trans h.c4, (World.cell?_setCell_other _ _ _ _ (by simp)).trans h.c5, (World.cell?_setCell_other _ _ _ _ (by simp)).trans h.c6, fun o => (World.frozen?_setCell _ _ _ _).trans (h.fr o)⟩
theorem Box7.set2 {w : World} {b : Nat} {v0 v1 v2 v3 v4 v5 v6 : Value} (h : Box7 w b v0 v1 v2 v3 v4 v5 v6) (x : Value) : Box7 (w.setCell ⟨b, 2, none⟩ x) b v0 v1 x v3 v4 v5 v6 :=
 ⟨(World.cell?_setCell_other _ _ _ _ (by simp)).trans h.c0, (World.cell?_setCell_other _ _ _ _ (by simp)).trans h.c1, World.cell?_setCell_same _ _ _ h.c2, (World.cell?_setCell_other _ _ _ _ (by simp)).trans h.c3, (World.cell?_setCell_other _ _ _ _ (by simp)).trans h.c4, (World.cell?_setCell_other _ _ _ _ (by simp)).trans h.c5, (World.cell?_setCell_other _ _ _ _ (by simp)).trans h.c6, fun o => (World.frozen?_setCell _ _ _ _).trans (h.fr o)⟩
theorem Box7.set3 {w : World} {b : Nat} {v0 v1 v2 v3 v4 v5 v6 : Value} (h : Box7 w b v0 v1 v2 v3 v4 v5 v6) (x : Value) : Box7 (w.setCell ⟨b, 3, none⟩ x) b v0 v1 v2 x v4 v5 v6 :=
 ⟨(World.cell?_setCell_other _ _ _ _ (by simp)).trans h.c0, (World.cell?_setCell_other _ _ _ _ (by simp)).trans h.c1, (World.cell?_setCell_other _ _ _ _ (by simp)).trans h.c2, World.cell?_setCell_same _ _ _ h.c3, (World.cell?_setCell_other _ _ _ _ (by simp)).trans h.c4, (World.cell?_setCell_other _ _ _ _ (by simp)).trans h.c5, (World.cell?_setCell_other _ _ _ _ (by simp)).trans h.c6, fun o => (World.frozen?_setCell _ _ _ _).trans (h.fr o)⟩
theorem Box7.set4 {w : World} {b : Nat} {v0 v1 v2 v3 v4 v5 v6 : Value} (h : Box7 w b v0 v1 v2 v3 v4 v5 v6) (x : Value) : Box7 (w.setCell ⟨b, 4, none⟩ x) b v0 v1 v2 v3 x v5 v6 :=
 ⟨(World.cell?_setCell_other _ _ _ _ (by simp)).trans h.c0, (World.cell?_setCell_other _ _ _ _ (by simp)).trans h.c1, (World.cell?_setCell_other _ _ _ _ (by simp)).trans h.c2, (World.cell?_setCell_other _ _ _ _ (by simp)).trans h.c3, World.cell?_setCell_same _ _ _ h.c4, (World.cell?_setCell_other _ _ _ _ (by simp)).trans h.c5, (World.cell?_setCell_other _ _ _ _ (by simp)).trans h.c6, fun o => (World.frozen?_setCell _ _ _ _).trans (h.fr o)⟩
end Go.Proofs.YtdgcohoneijleaaGreatDoor
namespace Go.Proofs.YtdgcohoneijleaaGreatDoor
open Go.RowKit
theorem Cell7.row {w : World} {g o : Nat} (x : Pl) (pv mv : Value) (h : ∀ r, r < 7 → ∃ u, w.cell? ⟨g, o + r, none⟩ = some u) : Cell7 (((((((w.setCell ⟨g, o, none⟩ (.int .i64 x.frm)).setCell ⟨g, o + 1, none⟩ (.int .i64 x.ca.pol)).setCell ⟨g, o + 2, none⟩ (.int .i64 x.ca.size)).setCell ⟨g, o + 3, none⟩ pv).setCell ⟨g, o + 4, none⟩ mv).setCell ⟨g, o + 5, none⟩ (.int .i64 x.ca.hand)).setCell ⟨g, o + 6, none⟩ (.int .i64 x.fa)) g o x pv mv := by
 obtain ⟨u0, h0⟩ := h 0 (by omega)
 obtain ⟨u1, h1⟩ := h 1 (by omega)
 obtain ⟨u2, h2⟩ := h 2 (by omega)
 obtain ⟨u3, h3⟩ := h 3 (by omega)
 obtain ⟨u4, h4⟩ := h 4 (by omega)
 obtain ⟨u5, h5⟩ := h 5 (by omega)
 obtain ⟨u6, h6⟩ := h 6 (by omega)
 rw [Nat.add_zero] at h0
 have e : ∀ (w : World) (i j : Nat) (x : Value), i ≠ j → (w.setCell ⟨g, i, none⟩ x).cell? ⟨g, j, none⟩ = w.cell? ⟨g, j, none⟩ := fun w i j x hij => World.cell?_setCell_other _ _ _ _ (by simp <;> omega)
 refine ⟨?_, ?_, ?_, ?_, ?_, ?_, ?_⟩
 ·rw [e _ (o + 6) (o) _ (by omega), e _ (o + 5) (o) _ (by omega), e _ (o + 4) (o) _ (by omega), e _ (o + 3) (o) _ (by omega), e _ (o + 2) (o) _ (by omega), e _ (o + 1) (o) _ (by omega)]; exact World.cell?_setCell_same _ _ _ h0
 ·rw [e _ (o + 6) (o + 1) _ (by omega), e _ (o + 5) (o + 1) _ (by omega), e _ (o + 4) (o + 1) _ (by omega), e _ (o + 3) (o + 1) _ (by omega), e _ (o + 2) (o + 1) _ (by omega)]; exact World.cell?_setCell_same _ _ _ ((e _ (o) (o + 1) _ (by omega)).trans h1)
 ·rw [e _ (o + 6) (o + 2) _ (by omega), e _ (o + 5) (o + 2) _ (by omega), e _ (o + 4) (o + 2) _ (by omega), e _ (o + 3) (o + 2) _ (by omega)]; exact World.cell?_setCell_same _ _ _ ((e _ (o + 1) (o + 2) _ (by omega)).trans ((e _ (o) (o + 2) _ (by omega)).trans h2))
 ·rw [e _ (o + 6) (o + 3) _ (by omega), e _ (o + 5) (o + 3) _ (by omega), e _ (o + 4) (o + 3) _ (by omega)]; exact World.cell?_setCell_same _ _ _ ((e _ (o + 2) (o + 3) _ (by omega)).trans ((e _ (o + 1) (o + 3) _ (by omega)).trans ((e _ (o) (o + 3) _ (by omega)).trans h3)))
 ·rw [e _ (o + 6) (o + 4) _ (by omega), e _ (o + 5) (o + 4) _ (by omega)]; exact World.cell?_setCell_same _ _ _ ((e _ (o + 3) (o + 4) _ (by omega)).trans ((e _ (o + 2) (o + 4) _ (by omega)).trans ((e _ (o + 1) (o + 4) _ (by omega)).trans ((e _ (o) (o + 4) _ (by omega)).trans h4))))
 ·rw [e _ (o + 6) (o + 5) _ (by omega)]; exact World.cell?_setCell_same _ _ _ ((e _ (o + 4) (o + 5) _ (by omega)).trans ((e _ (o + 3) (o + 5) _ (by omega)).trans ((e _ (o + 2) (o + 5) _ (by omega)).trans ((e _ (o + 1) (o + 5) _ (by omega)).trans ((e _ (o) (o + 5) _ (by omega)).trans h5)))))
 ·exact World.cell?_setCell_same _ _ _ ((e _ (o + 5) (o + 6) _ (by omega)).trans ((e _ (o + 4) (o + 6) _ (by omega)).trans ((e _ (o + 3) (o + 6) _ (by omega)).trans ((e _ (o + 2) (o + 6) _ (by omega)).trans ((e _ (o + 1) (o + 6) _ (by omega)).trans ((e _ (o) (o + 6) _ (by omega)).trans h6))))))
theorem elPlayers : El 29 68 (.agg #[.int .i64 0, .int .i64 0, .int .i64 0, .slice none 0 0, .slice none 0 0, .int .i64 0, .int .i64 0]) 7 88 := El.mk' Tryz.underlying29 (by kernel_rfl) rfl (by omega)
end Go.Proofs.YtdgcohoneijleaaGreatDoor
namespace Go.Proofs.YtdgcohoneijleaaGreatDoor
open Go.RowKit
theorem RPS.step {A T : Nat → Prop} {w w' : World} {v : Value} {ls : List Pl} (h : RPS A w v ls) (hc : Chg T w w') (hT : ∀ k, T k → A k) : RPS A w' v ls := by
 obtain ⟨a, cap, rfl, h1, h2, h3, pf, mf, h4, h5⟩ := h
 refine ⟨a, cap, rfl, h1, h2, h3, pf, mf, fun i hi => ⟨(h4 i hi).1.step hc hT, (h4 i hi).2.step hc hT⟩, fun hl => ?_⟩
 obtain ⟨b, off, rfl, hA, hb, hcell⟩ := h5 hl
 exact ⟨b, off, rfl, hA, Nat.lt_of_lt_of_le hb hc.size, fun i hi => (hcell i hi).step hc hb (fun e => hA (hT b e))⟩
theorem RPS.weak {A B : Nat → Prop} {w : World} {v : Value} {ls : List Pl} (h : RPS A w v ls) (hB : ∀ k, B k → k < w.heap.size → A k) : RPS B w v ls := by
 obtain ⟨a, cap, rfl, h1, h2, h3, pf, mf, h4, h5⟩ := h
 refine ⟨a, cap, rfl, h1, h2, h3, pf, mf, fun i hi => ⟨(h4 i hi).1.weak hB, (h4 i hi).2.weak hB⟩, fun hl => ?_⟩
 obtain ⟨b, off, rfl, hA, hb, hcell⟩ := h5 hl
 exact ⟨b, off, rfl, fun e => hA (hB b e hb), hb, hcell⟩
theorem RPS.shape {A : Nat → Prop} {w : World} {v : Value} {ls : List Pl} (h : RPS A w v ls) : ∃ a n c, v = .slice a n c := by
 obtain ⟨a, cap, rfl, _⟩ := h; exact ⟨_, _, _, rfl⟩
theorem Box3.at {w : World} {b n : Nat} {v0 v1 v2 : Value} (h : Box3 w b v0 v1 v2) (e : b = n) : Box3 w n v0 v1 v2 := e ▸ h
theorem Box3.far {w : World} {b : Nat} {v0 v1 v2 : Value} (h : Box3 w b v0 v1 v2) (p : Addr) (x : Value) (hp : p.block ≠ b) : Box3 (w.setCell p x) b v0 v1 v2 :=
 h.step (S := fun k => k = p.block) ((Chg.refl (fun k => k = p.block) w).setCell (p := p) (fun _ => rfl) x) (fun e => hp e.symm)
theorem Box3.set0 {w : World} {b : Nat} {v0 v1 v2 : Value} (h : Box3 w b v0 v1 v2) (x : Value) : Box3 (w.setCell ⟨b, 0, none⟩ x) b x v1 v2 :=
 ⟨World.cell?_setCell_same _ _ _ h.c0, (World.cell?_setCell_other _ _ _ _ (by simp)).trans h.c1, (World.cell?_setCell_other _ _ _ _ (by simp)).trans h.c2, fun o => (World.frozen?_setCell _ _ _ _).trans (h.fr o)⟩
theorem Box3.set1 {w : World} {b : Nat} {v0 v1 v2 : Value} (h : Box3 w b v0 v1 v2) (x : Value) : Box3 (w.setCell ⟨b, 1, none⟩ x) b v0 x v2 :=
 ⟨(World.cell?_setCell_other _ _ _ _ (by simp)).trans h.c0, World.cell?_setCell_same _ _ _ h.c1, (World.cell?_setCell_other _ _ _ _ (by simp)).trans h.c2, fun o => (World.frozen?_setCell _ _ _ _).trans (h.fr o)⟩
theorem Box3.set2 {w : World} {b : Nat} {v0 v1 v2 : Value} (h : Box3 w b v0 v1 v2) (x : Value) : Box3 (w.setCell ⟨b, 2, none⟩ x) b v0 v1 x :=
 ⟨(World.cell?_setCell_other _ _ _ _ (by simp)).trans h.c0, (World.cell?_setCell_other _ _ _ _ (by simp)).trans h.c1, World.cell?_setCell_same _ _ _ h.c2, fun o => (World.frozen?_setCell _ _ _ _).trans (h.fr o)⟩
theorem boxes33 {w : World} {t t' t'' : TypeId} {x0 x1 x2 y0 y1 y2 z0 z1 z2 : Value} {R : World → Prop} (h : ∀ W, Chg No w W → Box3 W w.heap.size x0 x1 x2 → Box3 W (w.heap.size + 1) y0 y1 y2 → Box3 W (w.heap.size + 1 + 1) z0 z1 z2 → R W) :
  R (((w.alloc (.cells #[x0, x1, x2] t)).alloc (.cells #[y0, y1, y2] t')).alloc (.cells #[z0, z1, z2] t'')) :=
 h _ ((((Chg.refl No w).alloc _).alloc _).alloc _) ((Box3.new w _ _ _ t).keep (((Chg.refl No _).alloc _).alloc _))
  (((Box3.new (w.alloc (.cells #[x0, x1, x2] t)) _ _ _ t').keep ((Chg.refl No _).alloc _)).at (by simp)) ((Box3.new ((w.alloc (.cells #[x0, x1, x2] t)).alloc (.cells #[y0, y1, y2] t')) _ _ _ t'').at (by simp))
theorem boxes32 {w : World} {t t' : TypeId} {x0 x1 x2 y0 y1 y2 : Value} {R : World → Prop} (h : ∀ W, Chg No w W → Box3 W w.heap.size x0 x1 x2 → Box3 W (w.heap.size + 1) y0 y1 y2 → R W) :
  R ((w.alloc (.cells #[x0, x1, x2] t)).alloc (.cells #[y0, y1, y2] t')) :=
 h _ (((Chg.refl No w).alloc _).alloc _) ((Box3.new w _ _ _ t).keep ((Chg.refl No _).alloc _)) ((Box3.new (w.alloc (.cells #[x0, x1, x2] t)) _ _ _ t').at (by simp))
end Go.Proofs.YtdgcohoneijleaaGreatDoor
namespace Go.Proofs.YtdgcohoneijleaaGreatDoor
open Go.RowKit
theorem Cell7.s0 {w : World} {b o : Nat} {x : Pl} {pv mv : Value} (h : Cell7 w b o x pv mv) (v : Int) : Cell7 (w.setCell ⟨b, o, none⟩ (.int .i64 v)) b o { x with frm := v } pv mv :=
 ⟨World.cell?_setCell_same _ _ _ h.c0, (World.cell?_setCell_other _ _ _ _ (by simp)).trans h.c1, (World.cell?_setCell_other _ _ _ _ (by simp)).trans h.c2, (World.cell?_setCell_other _ _ _ _ (by simp)).trans h.c3, (World.cell?_setCell_other _ _ _ _ (by simp)).trans h.c4, (World.cell?_setCell_other _ _ _ _ (by simp)).trans h.c5, (World.cell?_setCell_other _ _ _ _ (by simp)).trans h.c6⟩
theorem Cell7.s1 {w : World} {b o : Nat} {x : Pl} {pv mv : Value} (h : Cell7 w b o x pv mv) (v : Int) : Cell7 (w.setCell ⟨b, o + 1, none⟩ (.int .i64 v)) b o { x with ca := { x.ca with pol := v } } pv mv :=
 ⟨(World.cell?_setCell_other _ _ _ _ (by simp)).trans h.c0, World.cell?_setCell_same _ _ _ h.c1, (World.cell?_setCell_other _ _ _ _ (by simp)).trans h.c2, (World.cell?_setCell_other _ _ _ _ (by simp)).trans h.c3, (World.cell?_setCell_other _ _ _ _ (by simp)).trans h.c4, (World.cell?_setCell_other _ _ _ _ (by simp)).trans h.c5, (World.cell?_setCell_other _ _ _ _ (by simp)).trans h.c6⟩
theorem Cell7.s2 {w : World} {b o : Nat} {x : Pl} {pv mv : Value} (h : Cell7 w b o x pv mv) (v : Int) : Cell7 (w.setCell ⟨b, o + 2, none⟩ (.int .i64 v)) b o { x with ca := { x.ca with size := v } } pv mv :=
 ⟨(World.cell?_setCell_other _ _ _ _ (by simp)).trans h.c0, (World.cell?_setCell_other _ _ _ _ (by simp)).trans h.c1, World.cell?_setCell_same _ _ _ h.c2, (World.cell?_setCell_other _ _ _ _ (by simp)).trans h.c3, (World.cell?_setCell_other _ _ _ _ (by simp)).trans h.c4, (World.cell?_setCell_other _ _ _ _ (by simp)).trans h.c5, (World.cell?_setCell_other _ _ _ _ (by simp)).trans h.c6⟩
theorem Cell7.s5 {w : World} {b o : Nat} {x : Pl} {pv mv : Value} (h : Cell7 w b o x pv mv) (v : Int) : Cell7 (w.setCell ⟨b, o + 5, none⟩ (.int .i64 v)) b o { x with ca := { x.ca with hand := v } } pv mv :=
 ⟨(World.cell?_setCell_other _ _ _ _ (by simp)).trans h.c0, (World.cell?_setCell_other _ _ _ _ (by simp)).trans h.c1, (World.cell?_setCell_other _ _ _ _ (by simp)).trans h.c2, (World.cell?_setCell_other _ _ _ _ (by simp)).trans h.c3, (World.cell?_setCell_other _ _ _ _ (by simp)).trans h.c4, World.cell?_setCell_same _ _ _ h.c5, (World.cell?_setCell_other _ _ _ _ (by simp)).trans h.c6⟩
theorem Cell7.s6 {w : World} {b o : Nat} {x : Pl} {pv mv : Value} (h : Cell7 w b o x pv mv) (v : Int) : Cell7 (w.setCell ⟨b, o + 6, none⟩ (.int .i64 v)) b o { x with fa := v } pv mv :=
 ⟨(World.cell?_setCell_other _ _ _ _ (by simp)).trans h.c0, (World.cell?_setCell_other _ _ _ _ (by simp)).trans h.c1, (World.cell?_setCell_other _ _ _ _ (by simp)).trans h.c2, (World.cell?_setCell_other _ _ _ _ (by simp)).trans h.c3, (World.cell?_setCell_other _ _ _ _ (by simp)).trans h.c4, (World.cell?_setCell_other _ _ _ _ (by simp)).trans h.c5, World.cell?_setCell_same _ _ _ h.c6⟩
end Go.Proofs.YtdgcohoneijleaaGreatDoor
namespace Go.Proofs.YtdgcohoneijleaaGreatDoor
open Go.RowKit
theorem drewN0 (w : World) : Chg No w w.drew := (Chg.refl No w).drew
section
variable {P : Program} {ops : Array Oper} {Q : Exit → Act → World → Prop} {md : Region.Mode} {S : World → Prop}
def chainB (md : Region.Mode) (ops : Array Oper) (listed : Array Bool) (B : List Nat) (i : Nat) : Bool := B.all fun b => !listed.getD b true && (i :: B).any (fun c => Region.waitsFor md ops b c) && decide (b ≠ i)
theorem wpAnyK_firstT {k i : Nat} {oi : Oper} {v : Value} (B : List Nat) (hi : ops[i]? = some oi) (hsel : ∀ (j : Nat) (o : Oper) cs b, ops[j]? = some o → o.op ≠ .select cs b)
  (hQ : ∀ c a w, Q (.panic c) (a.put oi.dst v) w → Q (.panic c) a w) (hB : ∀ b ∈ B, b ≠ i ∧ ∃ c, (c = i ∨ c ∈ B) ∧ Region.waitsFor md ops b c = true) (hkB : k ∈ B) :
  ∀ (f : Nat) (listed : Array Bool) (a : Act) (w : World),
   (∀ j oj, ops[j]? = some oj → j ≠ i → listed.getD j true = false → (∀ e ∈ oj.after, Region.binds md e = true → e.on ≠ i) → oi.apart ops oj = true) →
   i ∈ Region.ready md ops listed → (∀ b ∈ B, listed.getD b true = false) → YieldsIf P ops S oi v a → S w →
   wpAnyK P md ops Q S k f (listed.setIfInBounds i true) (a.put oi.dst v) w → wpAnyK P md ops Q S k (f + 1) listed a w := by
 intro f
 induction f with
 | zero =>
  intro listed a w _ hr hl hy hS H
  refine ⟨fun h => (by rw [h] at hr; cases hr), fun j hj => ?_⟩
  by_cases hji : j = i
  ·subst hji; exact hy.wpOp hi hS ⟨fun _ => hS, H⟩
  ·have := ready_mono hj hji
   rw [H.1] at this
   cases this
 | succ f ih =>
  intro listed a w hfree hr hl hy hS H
  refine ⟨fun h => (by rw [h] at hr; cases hr), fun j hj => ?_⟩
  by_cases hji : j = i
  ·subst hji; exact hy.wpOp hi hS ⟨fun _ => hS, H⟩
  ·have hun : listed.getD i false = false := getD_both (mem_ready.1 hr).1
   have hjB : j ∉ B := fun hjB => by
    obtain ⟨_, oj, hoj, hall⟩ := mem_ready.1 hj
    obtain ⟨_, c, hc, hw⟩ := hB j hjB
    obtain ⟨oj', hoj', e, he, hb, hon⟩ := Region.waitsFor_spec hw
    have : oj' = oj := Option.some.inj (hoj'.symm.trans hoj)
    subst this
    have h1 := hall e he hb
    have hcu : listed.getD c false = false := by
     rcases hc with rfl | hc
     ·exact hun
     ·exact getD_both (hl c hc)
    rw [hon, hcu] at h1
    cases h1
   have hki : k ≠ i := (hB k hkB).1
   have hjk : j ≠ k := fun e => hjB (e ▸ hkB)
   have h1 := H.2 j (ready_mono hj hji)
   obtain ⟨hjun, oj, hoj, hall⟩ := mem_ready.1 hj
   have hnot : ∀ e ∈ oj.after, Region.binds md e = true → e.on ≠ i := fun e he hb heq => by
    have h1 := hall e he hb
    rw [heq, hun] at h1
    cases h1
   have h2 := wpOp_putIf hoj (hfree j oj hoj hji hjun hnot) (fun cs b => hsel i oi cs b hi) (fun cs b => hsel j oj cs b hoj) hQ hy h1
   have hl' : ∀ b ∈ B, (listed.setIfInBounds j true).getD b true = false := fun b hb => (getD_set_ne true (show j ≠ b from fun e => hjB (by rw [e]; exact hb))).trans (hl b hb)
   have hl2 : ((listed.setIfInBounds i true).setIfInBounds j true).getD k true = false := by rw [getD_set_ne true hjk, getD_set_ne true (Ne.symm hki)]; exact hl k hkB
   refine wpOp_mono (fun a' w' h3 => ⟨fun _ => h3.2.1 hl2, ih (listed.setIfInBounds j true) a' w' (fun m om hm hmi hmu hno => hfree m om hm hmi (getD_set_in hmu) hno) (ready_mono hr (Ne.symm hji)) hl' h3.1 (h3.2.1 hl2) ?_⟩) h2
   rw [Array.setIfInBounds_comm _ _ hji]
   exact h3.2.2
def waitersB (md : Region.Mode) (ops : Array Oper) (i : Nat) : List Nat := (List.range ops.size).foldl (fun B b => if (i :: B).any (fun c => Region.waitsFor md ops b c) && decide (b ≠ i) then b :: B else B) []
theorem wpAnyK_takeT (i : Nat) {k : Nat} {oi : Oper} (v : Value) {f : Nat} {listed : Array Bool} {a : Act} {w : World} (hi : ops[i]? = some oi)
  (hB : (Region.noSelect ops && Region.free md ops listed i && (Region.ready md ops listed).contains i && chainB md ops listed (waitersB md ops i) i && (waitersB md ops i).contains k) = true)
  (hQ : ∀ c a w, Q (.panic c) (a.put oi.dst v) w → Q (.panic c) a w) (hS : S w) (hg : oi.guard = none) (hy : ∀ w, S w → (execOp a.eval oi).run P w = .ok (.value v) w)
  (h : wpAnyK P md ops Q S k f (listed.setIfInBounds i true) (a.put oi.dst v) w) : wpAnyK P md ops Q S k (f + 1) listed a w := by
 simp only [Bool.and_eq_true] at hB
 obtain ⟨⟨⟨⟨h1, h2⟩, h3⟩, h4⟩, h5⟩ := hB
 simp only [chainB, List.all_eq_true, Bool.and_eq_true, Bool.not_eq_true', decide_eq_true_eq, List.any_eq_true] at h4
 refine wpAnyK_firstT (waitersB md ops i) hi (Region.noSelect_spec h1) hQ (fun b hb => ?_) (by simpa using h5) f listed a w (Region.free_spec hi h2) (by simpa using h3) (fun b hb => (h4 b hb).1.1) (.inl ⟨by simp [Region.wanted, hg], hy⟩) hS h
 obtain ⟨⟨_, c, hc, hw⟩, hne⟩ := h4 b hb
 exact ⟨hne, c, by simpa using hc, hw⟩
end
end Go.Proofs.YtdgcohoneijleaaGreatDoor
