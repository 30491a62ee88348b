import Derived.Test.YtodnkkmjjlfoiaaGreatCc
/- a Tournament begun again (program) -/
namespace Go.Proofs.YtodnkkmjjlfoiaaGreat
open Go.RowKit

def clrP (x : Pl) : Pl := servedP 0 x.ca.pol x.ca.size []
def clearP (ps : List Pl) : List Pl := ps.map clrP
theorem clearP_snoc (ps : List Pl) (j : Nat) (hj : j < ps.length) : clearP (ps.take (j + 1)) = clearP (ps.take j) ++ [clrP (ps.getD j dPl)] := by
  unfold clearP
  rw [List.take_succ_eq_append_getElem hj, List.map_append, List.getD_eq_getElem?_getD, List.getElem?_eq_getElem hj]; rfl
theorem own_none (q : Nat) : ¬ own (.slice none 0 0) q := fun e => by simp [own, Value.ownBlock] at e
end Go.Proofs.YtodnkkmjjlfoiaaGreat
