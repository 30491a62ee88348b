import Derived.Test.YtndhijckbponkaaGreatDoorYa
import Derived.Lib.Join
import Derived.Lib.Split
import Derived.Lib.AtoiAllCases
/- Plain Lean: a text parted at a byte, joined again; numerals and their values. No program in sight. -/
namespace Go.Proofs.YtndhijckbponkaaGreatDoor

theorem joinTail_cons (sep x : List UInt8) (r : List (List UInt8)) : Lib.joinTail sep (x :: r) = sep ++ x ++ Lib.joinTail sep r := by simp [Lib.joinTail]
theorem join_snoc (sep x : List UInt8) : ∀ (l : List (List UInt8)), l ≠ [] → Lib.join (l ++ [x]) sep = Lib.join l sep ++ sep ++ x
  | [], h => absurd rfl h
  | y :: r, _ => by
    rw [List.cons_append, Lib.join_cons, Lib.join_cons]
    simp [Lib.joinTail]
theorem itoa_nat' (n : Nat) : Lib.itoa (n : Int) = Lib.decDigits n := by
  unfold Lib.itoa
  rw [if_neg (by omega)]
  rfl
theorem itoa_neg' (n : Nat) (h : 1 ≤ n) : Lib.itoa (-(n : Int)) = 45 :: Lib.decDigits n := by
  unfold Lib.itoa
  rw [if_pos (by omega)]
  simp
end Go.Proofs.YtndhijckbponkaaGreatDoor
