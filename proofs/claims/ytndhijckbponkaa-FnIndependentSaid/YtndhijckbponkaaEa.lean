import Derived.Test.YtndhijckbponkaaP
/- plain: sequences of items in order, their weights and the sum of their faults -/
namespace Go.Proofs.Ytndhijckbponkaa

/-- a sum over the first numbers -/
def sumTo (g : Nat → Int) : Nat → Int
  | 0 => 0
  | m + 1 => sumTo g m + g m
theorem sumTo_bound {g : Nat → Int} {B : Int} {m : Nat} (h : ∀ i, i < m → 0 ≤ g i ∧ g i ≤ B) : ∀ j, j ≤ m → 0 ≤ sumTo g j ∧ sumTo g j ≤ (j : Int) * B := by
  intro j
  induction j with
  | zero => intro _; simp [sumTo]
  | succ j ih =>
    intro hj
    have h1 := ih (by omega)
    have h2 := h j (by omega)
    rw [sumTo, show ((j + 1 : Nat) : Int) = (j : Int) + 1 from rfl, Int.add_mul]
    omega
/-- the product of the weights of a sequence -/
def wt (ws s : List Int) : Int := s.foldl (fun p x => p * ws.getD x.toNat 0) 1
end Go.Proofs.Ytndhijckbponkaa
