import Derived.Test.YtdgcohoneijleaaGreatBase
/- what the laws' helpers do: copy, compare, mark, look whether the mark is held -/
namespace Go.Proofs.YtdgcohoneijleaaGreat
open Go.RowKit

def marks (k : Int) (n : Nat) : List Int := (List.range n).map (fun i : Nat => k + (i : Int))
theorem RI.cellAt {A : Nat → Prop} {w : World} {a : Option Addr} {n cap : Nat} {l : List Int} (h : RI A w (.slice a n cap) l) (hl : l ≠ []) :
    ∃ b off, a = some ⟨b, off, none⟩ ∧ ¬ A b ∧ b < w.heap.size ∧ ∀ i, i < l.length → w.cell? ⟨b, off + i, none⟩ = some (.int .i64 (l.getD i 0)) := by
  obtain ⟨a', cap', he, _, _, _, _, hc⟩ := h
  simp only [Value.slice.injEq] at he
  obtain ⟨rfl, rfl, rfl⟩ := he
  exact hc hl
end Go.Proofs.YtdgcohoneijleaaGreat
