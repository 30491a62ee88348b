import Derived.Test.YtodnkkmjjlfoiaaGreatDm
/- a row of TourSteps: its size, copy, compare, mark -/
namespace Go.Proofs.YtodnkkmjjlfoiaaGreat
open Go.RowKit

structure St3 where
  k : Int
  a : Int
  b : Int
def dSt : St3 := ⟨0, 0, 0⟩
structure Cell3 (w : World) (b o : Nat) (s : St3) : Prop where
  c0 : w.cell? ⟨b, o, none⟩ = some (.int .i64 s.k)
  c1 : w.cell? ⟨b, o + 1, none⟩ = some (.int .i64 s.a)
  c2 : w.cell? ⟨b, o + 2, none⟩ = some (.int .i64 s.b)
theorem Cell3.step {S : Nat → Prop} {w w' : World} {b o : Nat} {s : St3} (h : Cell3 w b o s) (hc : Chg S w w') (hb : b < w.heap.size) (hS : ¬ S b) : Cell3 w' b o s :=
  ⟨(hc.cellD b _ hb hS).trans h.c0, (hc.cellD b _ hb hS).trans h.c1, (hc.cellD b _ hb hS).trans h.c2⟩
/-- a row of steps that is read -/
def RSS (A : Nat → Prop) (w : World) (v : Value) (ss : List St3) : Prop :=
  ∃ a cap, v = .slice a ss.length cap ∧ ss.length ≤ cap ∧ cap ≤ 9223372036854775807 ∧ ss.length ≤ 1048576 ∧ (ss ≠ [] → ∃ b off, a = some ⟨b, off, none⟩ ∧ ¬ A b ∧ b < w.heap.size ∧ ∀ i, i < ss.length → Cell3 w b (off + i * 3) (ss.getD i dSt))
theorem RSS.step {A T : Nat → Prop} {w w' : World} {v : Value} {ss : List St3} (h : RSS A w v ss) (hc : Chg T w w') (hT : ∀ k, T k → A k) : RSS A w' v ss := by
  obtain ⟨a, cap, rfl, h1, h2, h3, h4⟩ := h
  refine ⟨a, cap, rfl, h1, h2, h3, fun hne => ?_⟩
  obtain ⟨b, off, rfl, hA, hb, hcell⟩ := h4 hne
  exact ⟨b, off, rfl, hA, Nat.lt_of_lt_of_le hb hc.size, fun i hi => (hcell i hi).step hc hb (fun ht => hA (hT b ht))⟩
theorem RSS.keep {A : Nat → Prop} {w w' : World} {v : Value} {ss : List St3} (h : RSS A w v ss) (hc : Chg No w w') : RSS A w' v ss := h.step hc (fun _ e => e.elim)
theorem RSS.weak {A B : Nat → Prop} {w : World} {v : Value} {ss : List St3} (h : RSS A w v ss) (hB : ∀ k, B k → k < w.heap.size → A k) : RSS B w v ss := by
  obtain ⟨a, cap, rfl, h1, h2, h3, h4⟩ := h
  refine ⟨a, cap, rfl, h1, h2, h3, fun hne => ?_⟩
  obtain ⟨b, off, rfl, hA, hb, hcell⟩ := h4 hne
  exact ⟨b, off, rfl, fun e => hA (hB b e hb), hb, hcell⟩
theorem RSS.shape {A : Nat → Prop} {w : World} {v : Value} {ss : List St3} (h : RSS A w v ss) : ∃ a c, v = .slice a ss.length c := by
  obtain ⟨a, cap, rfl, _⟩ := h; exact ⟨_, _, rfl⟩
theorem elSteps : El 35 49 (.agg #[.int .i64 0, .int .i64 0, .int .i64 0]) 3 24 := El.mk' Tryz.underlying35 (by kernel_rfl) rfl (by omega)
/-- a row of steps of the call's own -/
def OSS (base : Nat) (w : World) (v : Value) (ss : List St3) : Prop := ∃ cs, OS 49 3 base w v ss.length cs ∧ ss.length ≤ 1048576 ∧ ∀ i, i < ss.length → cs.getD (i * 3) undef = .int .i64 (ss.getD i dSt).k ∧ cs.getD (i * 3 + 1) undef = .int .i64 (ss.getD i dSt).a ∧ cs.getD (i * 3 + 2) undef = .int .i64 (ss.getD i dSt).b
theorem OSS.read {base : Nat} {w : World} {v : Value} {ss : List St3} (h : OSS base w v ss) {A : Nat → Prop} (hA : ∀ q, own v q → ¬ A q) : RSS A w v ss := by
  obtain ⟨cs, ho, hn, hc⟩ := h
  have hcl := ho.cl
  obtain ⟨a, cap, rfl, h1, h2, h3, h4⟩ := ho.view
  refine ⟨a, cap, rfl, h1, h2, hn, fun hne => ?_⟩
  have hp := List.length_pos_iff.2 hne
  obtain ⟨g, rfl, _, hg, hcell, _⟩ := h4 (by omega)
  refine ⟨g, 0, rfl, hA g (own_slice.2 rfl), hg, fun i hi => ?_⟩
  obtain ⟨e0, e1, e2⟩ := hc i hi
  rw [Nat.zero_add]
  exact ⟨by rw [hcell _ (by omega), e0], by rw [hcell _ (by omega), e1], by rw [hcell _ (by omega), e2]⟩
theorem OSS.step {base : Nat} {w w' : World} {v : Value} {ss : List St3} {S : Nat → Prop} (h : OSS base w v ss) (hc : Chg S w w') (hS : ∀ q, own v q → ¬ S q) : OSS base w' v ss := by
  obtain ⟨cs, ho, h1, h2⟩ := h
  exact ⟨cs, ho.step hc hS, h1, h2⟩
theorem OSS.keep {base : Nat} {w w' : World} {v : Value} {ss : List St3} (h : OSS base w v ss) (hc : Chg No w w') : OSS base w' v ss := h.step hc (fun _ _ e => e)
theorem OSS.lt {base : Nat} {w : World} {v : Value} {ss : List St3} (h : OSS base w v ss) (q : Nat) (hq : own v q) : base ≤ q ∧ q < w.heap.size := by
  obtain ⟨cs, ho, _⟩ := h; exact ho.lt q hq

end Go.Proofs.YtodnkkmjjlfoiaaGreat
