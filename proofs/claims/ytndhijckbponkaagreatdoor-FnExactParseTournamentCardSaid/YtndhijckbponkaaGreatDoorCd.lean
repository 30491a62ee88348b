import Derived.Test.YtndhijckbponkaaGreatDoorPkX2
import Derived.Test.YtndhijckbponkaaGreatDoorDat
import Derived.Test.YtndhijckbponkaaGreatDoorPkX1
import Derived.RegionTactic
import Derived.Test.YtndhijckbponkaaGreatDoorL
/- what the laws' helpers do with a Cache: its size, copy, compare, mark, look whether the mark is held -/
namespace Go.Proofs.YtndhijckbponkaaGreatDoor
open Go.RowKit

def zeroC : Ca := ⟨0, 0, [], [], 0⟩
/-- a Cache by value whose lists are the call's own -/
def RCO (base : Nat) (w : World) (v : Value) (c : Ca) : Prop :=
  ∃ pv mv, v = .agg #[.int .i64 c.pol, .int .i64 c.size, pv, mv, .int .i64 c.hand] ∧ OI base w pv c.pages ∧ OI base w mv c.marks ∧ ∀ q, own pv q → ¬ own mv q
/-- the blocks of a Cache by value -/
def ownC : Value → Nat → Prop
  | .agg xs, q => own (xs.getD 2 undef) q ∨ own (xs.getD 3 undef) q
  | _, _ => False
theorem RCO.lt {base : Nat} {w : World} {v : Value} {c : Ca} (h : RCO base w v c) (q : Nat) (hq : ownC v q) : base ≤ q ∧ q < w.heap.size := by
  obtain ⟨pv, mv, rfl, h1, h2, _⟩ := h
  rcases hq with hq | hq
  · exact h1.lt q hq
  · exact h2.lt q hq
theorem RCO.step {base : Nat} {w w' : World} {v : Value} {c : Ca} {T : Nat → Prop} (h : RCO base w v c) (hc : Chg T w w') (hT : ∀ q, ownC v q → ¬ T q) : RCO base w' v c := by
  obtain ⟨pv, mv, rfl, h1, h2, h3⟩ := h
  exact ⟨pv, mv, rfl, h1.step hc (fun q hq => hT q (.inl hq)), h2.step hc (fun q hq => hT q (.inr hq)), h3⟩
theorem RCO.keep {base : Nat} {w w' : World} {v : Value} {c : Ca} (h : RCO base w v c) (hc : Chg No w w') : RCO base w' v c := h.step hc (fun _ _ e => e)
theorem RCO.weak {base base' : Nat} {w : World} {v : Value} {c : Ca} (h : RCO base w v c) (hb : base' ≤ base) : RCO base' w v c := by
  obtain ⟨pv, mv, rfl, h1, h2, h3⟩ := h
  exact ⟨pv, mv, rfl, h1.weak hb, h2.weak hb, h3⟩
theorem RCO.read {base : Nat} {w : World} {v : Value} {c : Ca} (h : RCO base w v c) {A : Nat → Prop} (hA : ∀ q, ownC v q → ¬ A q) : RC A w v c := by
  obtain ⟨pv, mv, rfl, h1, h2, h3⟩ := h
  exact ⟨pv, mv, rfl, h1.read (fun q hq => hA q (.inl hq)), h2.read (fun q hq => hA q (.inr hq))⟩
theorem RCO.readNo {base : Nat} {w : World} {v : Value} {c : Ca} (h : RCO base w v c) : RC No w v c := h.read (fun _ _ e => e)
theorem RCO.zero (base : Nat) (w : World) : RCO base w (.agg #[.int .i64 0, .int .i64 0, .slice none 0 0, .slice none 0 0, .int .i64 0]) ⟨0, 0, [], [], 0⟩ :=
  ⟨_, _, rfl, OI.nil base w, OI.nil base w, fun q h => by simp [own, Value.ownBlock] at h⟩

theorem boxes3 {w : World} {t t' t'' : TypeId} {x0 x1 x2 x3 x4 y0 y1 y2 y3 y4 z0 z1 z2 z3 z4 : Value} {R : World → Prop} (h : ∀ W, Chg No w W → Box W w.heap.size x0 x1 x2 x3 x4 → Box W (w.heap.size + 1) y0 y1 y2 y3 y4 → Box W (w.heap.size + 1 + 1) z0 z1 z2 z3 z4 → R W) :
    R (((w.alloc (.cells #[x0, x1, x2, x3, x4] t)).alloc (.cells #[y0, y1, y2, y3, y4] t')).alloc (.cells #[z0, z1, z2, z3, z4] t'')) :=
  h _ ((((Chg.refl No w).alloc _).alloc _).alloc _) ((Box.new w x0 x1 x2 x3 x4 t).keep (((Chg.refl No _).alloc _).alloc _))
    (((Box.new (w.alloc (.cells #[x0, x1, x2, x3, x4] t)) y0 y1 y2 y3 y4 t').keep ((Chg.refl No _).alloc _)).at (by simp)) ((Box.new ((w.alloc (.cells #[x0, x1, x2, x3, x4] t)).alloc (.cells #[y0, y1, y2, y3, y4] t')) z0 z1 z2 z3 z4 t'').at (by simp))
theorem box1 {w : World} {t : TypeId} {x0 x1 x2 x3 x4 : Value} {R : World → Prop} (h : ∀ W, Chg No w W → Box W w.heap.size x0 x1 x2 x3 x4 → R W) : R (w.alloc (.cells #[x0, x1, x2, x3, x4] t)) :=
  h _ ((Chg.refl No w).alloc _) (Box.new w x0 x1 x2 x3 x4 t)
theorem boxes2 {w : World} {t t' : TypeId} {x0 x1 x2 x3 x4 y0 y1 y2 y3 y4 : Value} {R : World → Prop} (h : ∀ W, Chg No w W → Box W w.heap.size x0 x1 x2 x3 x4 → Box W (w.heap.size + 1) y0 y1 y2 y3 y4 → R W) :
    R ((w.alloc (.cells #[x0, x1, x2, x3, x4] t)).alloc (.cells #[y0, y1, y2, y3, y4] t')) :=
  h _ (((Chg.refl No w).alloc _).alloc _) ((Box.new w x0 x1 x2 x3 x4 t).keep ((Chg.refl No _).alloc _))
    ((Box.new (w.alloc (.cells #[x0, x1, x2, x3, x4] t)) y0 y1 y2 y3 y4 t').at (by simp))
/-- the new lists behind a store to a box of one's own -/
theorem OI.far {base : Nat} {w : World} {v : Value} {l : List Int} (h : OI base w v l) {b : Nat} (hb : b < base) (o : Nat) (x : Value) : OI base (w.setCell ⟨b, o, none⟩ x) v l :=
  h.set b o x (fun hq => by have := (h.lt b hq).1; omega)

set_option maxRecDepth 100000 in
set_option maxHeartbeats 1000000 in
theorem eqCache_same (A B : Nat → Prop) (v v' : Value) (c : Ca) (w : World) (h : RC A w v c) (h' : RC B w v' c) :
    Calls Tryz.prog 124 #[v, v'] w (Ret fun r w' => r = .bool true ∧ Chg No w w') := by
  obtain ⟨pv, mv, rfl, hp, hmk⟩ := h
  obtain ⟨pv', mv', rfl, hp', hmk'⟩ := h'
  obtain ⟨pa, pn, pc, rfl⟩ := hp.shape
  obtain ⟨ma, mn, mc, rfl⟩ := hmk.shape
  obtain ⟨pa', pn', pc', rfl⟩ := hp'.shape
  obtain ⟨ma', mn', mc', rfl⟩ := hmk'.shape
  go_enter Tryz.func124, Tryz.ntmps124
  go_wp2_with fail
  refine boxes2 (R := fun W => Calls _ _ _ W _) (fun W hW b0 b1 => ?_)
  refine (eqIntS_same A B _ _ _ W (hp.keep hW) (hp'.keep hW)).mono ?_
  rintro e w1 ⟨_, rfl, rfl, k1⟩
  have b0 := b0.keep k1
  have b1 := b1.keep k1
  have hW := hW.keep k1
  obtain ⟨c0, c1, c2, c3, c4, _⟩ := id b0
  obtain ⟨d0, d1, d2, d3, d4, _⟩ := id b1
  go_wp2_with fail
  refine (eqIntS_same A B _ _ _ _ (hmk.keep hW) (hmk'.keep hW)).mono ?_
  rintro e w2 ⟨_, rfl, rfl, k2⟩
  have b0 := b0.keep k2
  have b1 := b1.keep k2
  have hW := hW.keep k2
  clear c0 c1 c2 c3 c4 d0 d1 d2 d3 d4
  obtain ⟨c0, c1, c2, c3, c4, _⟩ := id b0
  obtain ⟨d0, d1, d2, d3, d4, _⟩ := id b1
  go_wp2_with fail
  go_ret
  exact ⟨_, rfl, rfl, hW⟩
end Go.Proofs.YtndhijckbponkaaGreatDoor
