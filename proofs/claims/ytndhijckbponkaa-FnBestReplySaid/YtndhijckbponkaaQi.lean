import Derived.Test.YtndhijckbponkaaQh
/- what DrawIndependentBest draws -/
namespace Go.Proofs.Ytndhijckbponkaa
open Go.RowKit

theorem RPr.weak {A B : Nat → Prop} {w : World} {v : Value} {P : Pr} (h : RPr A w v P) (hB : ∀ k, B k → k < w.heap.size → A k) : RPr B w v P := by
  obtain ⟨m, s, rfl, h1, h2⟩ := h
  exact ⟨m, s, rfl, h1.weak hB, h2.weak hB⟩
theorem RPr.weakN {A : Nat → Prop} {w : World} {v : Value} {P : Pr} (h : RPr A w v P) : RPr No w v P := h.weak (fun _ e _ => e.elim)
end Go.Proofs.Ytndhijckbponkaa
