import Derived.Test.YtampibdnnbekjaaJ
import Derived.Test.YtampibdnnbekjaaT
import Derived.Test.YtampibdnnbekjaaPl
import Derived.Test.YtampibdnnbekjaaDat
import Derived.Test.YtampibdnnbekjaaShelf
/- numbers in ascending order, each once: rising, l3Different -/
namespace Go.Proofs.Ytampibdnnbekjaa
open Go.RowKit

theorem obuild0 {o : Oper} {a : Act} {K : Act → World → Prop} {Q : Exit → Act → World → Prop} {w : World}
    (ho : o.op = .buildSlice 22 0 #[])
    (h : ∀ g w', Chg No w w' → OI w.heap.size w' (.slice (some ⟨g, 0, none⟩) 0 0) [] → g = w.heap.size → K (a.put o.dst (.slice (some ⟨g, 0, none⟩) 0 0)) w') :
    Oper.wp Try.prog o a w K Q := by
  have h1 := h w.heap.size (w.alloc (.cells #[] 3)) ((Chg.refl No w).alloc _) (OI.zero (Nat.le_refl _)) rfl
  unfold Oper.wp execOp
  simp only [ho]
  go_simp
  exact h1
end Go.Proofs.Ytampibdnnbekjaa
