import Derived.Test.YtndhijckbponkaaJ
import Derived.Test.YtndhijckbponkaaC
import Derived.Test.YtndhijckbponkaaT
import Derived.Test.YtndhijckbponkaaH
import Derived.Test.YtndhijckbponkaaP
import Derived.Test.YtndhijckbponkaaDat
import Derived.Test.YtndhijckbponkaaShelf
import Derived.Test.YtndhijckbponkaaSm
/- ContentsOf, both sides -/
namespace Go.Proofs.Ytndhijckbponkaa
open Go.RowKit

/-- a call at an operation -/
theorem ocall {o : Oper} {a : Act} {K : Act → World → Prop} {Q : Exit → Act → World → Prop} {w : World} {f : FuncId} {args : Array Value} {φ : Value → World → Prop}
    (ho : (execOp a.eval o).run Try.prog w = .ok (.enter f args) w) (h : Calls Try.prog f args w (Ret φ)) (hk : ∀ v w', φ v w' → K (a.put o.dst v) w') : Oper.wp Try.prog o a w K Q := by
  unfold Oper.wp
  rw [ho]
  refine h.mono (fun e w' hr => ?_)
  obtain ⟨v, rfl, hp⟩ := hr
  exact hk v w' hp
end Go.Proofs.Ytndhijckbponkaa
