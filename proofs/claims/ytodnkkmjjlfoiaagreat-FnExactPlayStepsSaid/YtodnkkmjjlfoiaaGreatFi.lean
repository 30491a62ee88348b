import Derived.Test.YtodnkkmjjlfoiaaGreatBase
/- the first index at which something holds -/
namespace Go.Proofs.YtodnkkmjjlfoiaaGreat

/-- no index below j at which p holds -/
def NoneTo (p : Nat → Bool) (j : Nat) : Prop := ∀ i, i < j → p i = false
theorem NoneTo.zero (p : Nat → Bool) : NoneTo p 0 := fun i h => absurd h (Nat.not_lt_zero i)
theorem NoneTo.succ {p : Nat → Bool} {j : Nat} (h : NoneTo p j) (hj : p j = false) : NoneTo p (j + 1) := fun i hi => by
  by_cases e : i = j
  · rw [e]; exact hj
  · exact h i (by omega)
/-- the first index below n at which p holds -/
def firstN (p : Nat → Bool) : Nat → Option Nat
  | 0 => none
  | n + 1 => match firstN p n with
    | some i => some i
    | none => if p n then some n else none
theorem firstN_none {p : Nat → Bool} {n : Nat} (h : NoneTo p n) : firstN p n = none := by
  induction n with
  | zero => rfl
  | succ n ih => simp [firstN, ih (fun i hi => h i (by omega)), h n (by omega)]
theorem firstN_hit {p : Nat → Bool} {n j : Nat} (h : NoneTo p j) (hj : j < n) (hp : p j = true) : firstN p n = some j := by
  induction n with
  | zero => omega
  | succ n ih =>
    by_cases e : j = n
    · subst e; simp [firstN, firstN_none h, hp]
    · simp [firstN, ih (by omega)]
def oneUp : Option Nat → Int
  | some i => (i : Int) + 1
  | none => 0
def idxOr0 : Option Nat → Int
  | some i => (i : Int)
  | none => 0
end Go.Proofs.YtodnkkmjjlfoiaaGreat
