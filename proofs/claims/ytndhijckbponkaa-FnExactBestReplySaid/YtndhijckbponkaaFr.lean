import Derived.Test.YtndhijckbponkaaI
import Derived.RegionTactic
/- fractions: greatest common divisors, Fracs made of numbers -/
namespace Go.Proofs.Ytndhijckbponkaa
open Go.RowKit

/-- at most numbers are drawn -/
def Qt (w w' : World) : Prop := ∃ m, w' = w.drewN m
theorem Qt.refl (w : World) : Qt w w := ⟨0, rfl⟩
theorem Qt.chg {w w' : World} (h : Qt w w') : Chg No w w' := by
  obtain ⟨m, rfl⟩ := h
  exact (Chg.refl No w).drewN m
theorem drewN_drewN (w : World) (a b : Nat) : (w.drewN a).drewN b = w.drewN (a + b) := by simp [World.drewN, Nat.add_assoc]
theorem Qt.trans {w w1 w2 : World} (h : Qt w w1) (h2 : Qt w1 w2) : Qt w w2 := by
  obtain ⟨a, rfl⟩ := h
  obtain ⟨b, rfl⟩ := h2
  exact ⟨a + b, drewN_drewN w a b⟩

/-- a Frac's test: callees' contracts at fixed arguments, made quiet -/
theorem same_quiet {P : Program} {f : FuncId} {args : Array Value} {w : World} {n : Nat} {v : Value}
    (h : Calls P f args (w.drewN n) fun e w' => e = .returned v ∧ w.drewN n = w') : Calls P f args (w.drewN n) fun e w'' => e = .returned v ∧ ∃ m, w'' = w.drewN m :=
  Calls.quiet_of_same (h.mono fun _ _ h => ⟨h.1, h.2.symm⟩)
theorem qt_quiet {P : Program} {f : FuncId} {args : Array Value} {w : World} {n : Nat} {v : Value}
    (h : Calls P f args (w.drewN n) fun e w' => e = .returned v ∧ Qt (w.drewN n) w') : Calls P f args (w.drewN n) fun e w'' => e = .returned v ∧ ∃ m, w'' = w.drewN m :=
  h.mono fun _ _ h => ⟨h.1, by obtain ⟨m, hm⟩ := h.2; exact ⟨n + m, hm.trans (drewN_drewN w n m)⟩⟩

/-- a block of cells known one by one -/
structure BoxN (w : World) (b : Nat) (vs : List Value) : Prop where
  c : ∀ i v, vs[i]? = some v → w.cell? ⟨b, i, none⟩ = some v
  fr : ∀ o, w.frozen? ⟨b, o, none⟩ = false
  lt : b < w.heap.size
theorem BoxN.step {S : Nat → Prop} {w w' : World} {b : Nat} {vs : List Value} (h : BoxN w b vs) (hc : Chg S w w') (hS : ¬ S b) : BoxN w' b vs :=
  ⟨fun i v hi => (hc.cellD b i h.lt hS).trans (h.c i v hi), fun o => (World.frozen?_of_block (hc.block b h.lt hS)).trans (h.fr o), Nat.lt_of_lt_of_le h.lt hc.size⟩
theorem BoxN.keep {w w' : World} {b : Nat} {vs : List Value} (h : BoxN w b vs) (hc : Chg No w w') : BoxN w' b vs := h.step hc (fun e => e)
theorem BoxN.new (w : World) (xs : Array Value) (t : TypeId) : BoxN (w.alloc (.cells xs t)) w.heap.size xs.toList :=
  ⟨fun i v hi => by rw [World.cell?_alloc_new]; simpa using hi, fun o => World.frozen?_alloc_new _ _ _ _, by simp⟩

end Go.Proofs.Ytndhijckbponkaa
