import Derived.Test.YtmdcmfnpfkfocaaCq
/- the law of ContentsOf returns true -/
namespace Go.Proofs.Ytmdcmfnpfkfocaa
open Go.RowKit

/-- blocks made since -/
def Since (w : World) : Nat → Prop := fun q => w.heap.size ≤ q
theorem RI.since {A : Nat → Prop} {w : World} {v : Value} {l : List Int} (h : RI A w v l) : RI (Since w) w v l := h.to (Chg.refl No w) (fun _ e => e.elim) (fun _ hq => .inr hq)

