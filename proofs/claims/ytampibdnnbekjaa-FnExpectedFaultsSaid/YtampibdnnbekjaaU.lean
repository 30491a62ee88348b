import Derived.Test.YtampibdnnbekjaaR
import Derived.Test.YtampibdnnbekjaaS
/- the law of FaultPlaces returns true -/
namespace Go.Proofs.Ytampibdnnbekjaa
open Go.RowKit

/-- blocks made since -/
def Since (w : World) : Nat → Prop := fun q => w.heap.size ≤ q
theorem RI.since {A : Nat → Prop} {w : World} {v : Value} {l : List Int} (h : RI A w v l) : RI (Since w) w v l := h.to (Chg.refl No w) (fun _ e => e.elim) (fun _ hq => .inr hq)
theorem OI.later {base : Nat} {w w' : World} {v : Value} {l : List Int} (h : OI base w v l) (hb : w'.heap.size ≤ base) (q : Nat) (hq : own v q) : w'.heap.size ≤ q := by have := (h.lt q hq).1; omega
end Go.Proofs.Ytampibdnnbekjaa
