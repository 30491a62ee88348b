import Derived.Test.YtndhijckbponkaaGreatDoorO
import Derived.Test.YtndhijckbponkaaGreatDoorH
import Derived.Test.YtndhijckbponkaaGreatDoorJ
import Derived.Test.YtndhijckbponkaaGreatDoorT
import Derived.Test.YtndhijckbponkaaGreatDoorP
import Derived.Test.YtndhijckbponkaaGreatDoorDat
import Derived.Test.YtndhijckbponkaaGreatDoorShelf
import Derived.Test.YtndhijckbponkaaGreatDoorSs
/- ContentsOf, both sides -/
namespace Go.Proofs.YtndhijckbponkaaGreatDoor
open Go.RowKit

/-- a call at an operation -/
theorem ocall {o : Oper} {a : Act} {K : Act → World → Prop} {Q : Exit → Act → World → Prop} {w : World} {f : FuncId} {args : Array Value} {φ : Value → World → Prop}
    (ho : (execOp a.eval o).run Tryz.prog w = .ok (.enter f args) w) (h : Calls Tryz.prog f args w (Ret φ)) (hk : ∀ v w', φ v w' → K (a.put o.dst v) w') : Oper.wp Tryz.prog o a w K Q := by
  unfold Oper.wp
  rw [ho]
  refine h.mono (fun e w' hr => ?_)
  obtain ⟨v, rfl, hp⟩ := hr
  exact hk v w' hp
end Go.Proofs.YtndhijckbponkaaGreatDoor
