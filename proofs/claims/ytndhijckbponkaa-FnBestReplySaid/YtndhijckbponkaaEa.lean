import Derived.Test.YtndhijckbponkaaP
/- plain: sequences of items in order, their weights and the sum of their faults -/
namespace Go.Proofs.Ytndhijckbponkaa

/-- a sum over the first numbers -/
def sumTo (g : Nat → Int) : Nat → Int
  | 0 => 0
  | m + 1 => sumTo g m + g m
/-- the product of the weights of a sequence -/
def wt (ws s : List Int) : Int := s.foldl (fun p x => p * ws.getD x.toNat 0) 1
end Go.Proofs.Ytndhijckbponkaa
