import Derived.Test.YtndhijckbponkaaS
import Derived.Test.YtndhijckbponkaaDat
import Derived.Test.YtndhijckbponkaaFr
import Derived.Test.YtndhijckbponkaaJ
import Derived.Test.YtndhijckbponkaaC
/- what the laws' helpers do with a Cache: its size, copy, compare, mark, look whether the mark is held -/
namespace Go.Proofs.Ytndhijckbponkaa
open Go.RowKit

/-- the new lists behind a store to a box of one's own -/
theorem OI.far {base : Nat} {w : World} {v : Value} {l : List Int} (h : OI base w v l) {b : Nat} (hb : b < base) (o : Nat) (x : Value) : OI base (w.setCell ⟨b, o, none⟩ x) v l :=
  h.set b o x (fun hq => by have := (h.lt b hq).1; omega)
end Go.Proofs.Ytndhijckbponkaa
