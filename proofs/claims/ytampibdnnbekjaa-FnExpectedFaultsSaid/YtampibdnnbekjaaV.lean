import Derived.Test.YtampibdnnbekjaaU
/- FaultsBySize, both sides, and its law -/
namespace Go.Proofs.Ytampibdnnbekjaa
open Go.RowKit

/-- the numbers of faults for the sizes 1 .. j -/
def bySizeTo (p : Int) (l : List Int) : Nat → List Int
  | 0 => []
  | j + 1 => bySizeTo p l j ++ [((places (newC p ((j : Int) + 1)) l).length : Int)]
theorem bySizeTo_len (p : Int) (l : List Int) (j : Nat) : (bySizeTo p l j).length = j := by
  induction j with
  | zero => rfl
  | succ j ih => simp [bySizeTo, ih]
theorem asked_pol {n p k : Int} {l : List Int} (h : askedB n p k l = true) : 1 ≤ p ∧ p ≤ 7 := by
  simp only [askedB, Bool.and_eq_true, inB_iff] at h
  exact h.1.1
end Go.Proofs.Ytampibdnnbekjaa
