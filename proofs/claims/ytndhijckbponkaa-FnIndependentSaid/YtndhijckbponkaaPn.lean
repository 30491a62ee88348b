import Derived.Test.YtndhijckbponkaaPm
/- BestReply, both sides -/
namespace Go.Proofs.Ytndhijckbponkaa
open Go.RowKit

theorem drawB_facts {p : Pr} {s : Int} {qs : List (List Int)} {ws : List Int} (h : drawB p s qs ws = true) : PrP p ∧ ChP p.sv.length 12 6 qs ws ∧ 0 ≤ s ∧ s < (p.mv.length : Int) := by
  unfold drawB chaB at h
  rw [Bool.and_eq_true, Bool.and_eq_true] at h
  have h3 := inB_iff.1 h.2
  exact ⟨bP_iff.1 h.1.1, bP_iff.1 h.1.2, h3.1, by omega⟩
end Go.Proofs.Ytndhijckbponkaa
