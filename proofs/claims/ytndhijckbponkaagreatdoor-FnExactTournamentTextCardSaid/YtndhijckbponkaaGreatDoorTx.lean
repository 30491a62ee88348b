import Derived.Test.YtndhijckbponkaaGreatDoorT
/- guarded operations of a region whose order is drawn: taken first, skipped, entered -/
namespace Go.Proofs.YtndhijckbponkaaGreatDoor
open Go.RowKit

section
variable {P : Program} {ops : Array Oper} {Q : Exit → Act → World → Prop} {md : Region.Mode} {S : World → Prop}
end
theorem ocallR {o : Oper} {a : Act} {K : Act → World → Prop} {Q : Exit → Act → World → Prop} {w : World} {f : FuncId} {args : Array Value} {v : Value} {φ : World → Prop}
    (ho : (execOp a.eval o).run Tryz.prog w = .ok (.enter f args) w) (h : Calls Tryz.prog f args w fun e w' => e = .returned v ∧ φ w') (hk : ∀ w', φ w' → K (a.put o.dst v) w') : Oper.wp Tryz.prog o a w K Q := by
  unfold Oper.wp
  rw [ho]
  refine h.mono (fun e w' hr => ?_)
  obtain ⟨rfl, hp⟩ := hr
  exact hk w' hp
end Go.Proofs.YtndhijckbponkaaGreatDoor
