import Derived.Test.YtfdmghohmohmpaaDat
import Derived.Test.YtfdmghohmohmpaaFr
/- what the laws' helpers do with slices of slices of int -/
namespace Go.Proofs.Ytfdmghohmohmpaa
open Go.RowKit

def tot : List (List Int) → Nat
  | [] => 0
  | l :: ll => l.length + tot ll
theorem tot_append (a b : List (List Int)) : tot (a ++ b) = tot a + tot b := by
  induction a with
  | nil => simp [tot]
  | cons x a ih => simp [tot, ih]; omega
theorem tot_take (ll : List (List Int)) (k : Nat) : tot (ll.take k) ≤ tot ll := by
  have := tot_append (ll.take k) (ll.drop k)
  rw [List.take_append_drop] at this
  omega
theorem tot_succ (ll : List (List Int)) (k : Nat) (h : k < ll.length) : tot (ll.take (k + 1)) = tot (ll.take k) + (ll.getD k []).length := by
  rw [List.take_succ_eq_append_getElem h, tot_append]
  simp [tot, List.getD_eq_getElem?_getD, List.getElem?_eq_getElem h]
theorem tot_get (ll : List (List Int)) (k : Nat) (h : k < ll.length) : (ll.getD k []).length ≤ tot ll := by
  have := tot_succ ll k h
  have := tot_take ll (k + 1)
  omega
end Go.Proofs.Ytfdmghohmohmpaa
