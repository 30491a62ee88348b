import Derived.Test.YtmdcmfnpfkfocaaCo
import Derived.Test.YtmdcmfnpfkfocaaH
/- ContentsOf of the reference -/
namespace Go.Proofs.Ytmdcmfnpfkfocaa
open Go.RowKit

set_option maxRecDepth 100000 in
set_option maxHeartbeats 400000 in
theorem l4Sorted_any (A : Nat → Prop) (v : Value) (l : List Int) (w : World) (h : RI A w v l) :
    Calls Try.prog 68 #[v] w (Ret fun r w' => OI w.heap.size w' r (diffL l) ∧ Chg No w w') := by
  go_enter Try.func68, Try.ntmps68
  go_wp2_with fail
  refine (l3Different_any A v l w h).mono ?_
  rintro e w1 ⟨v1, rfl, o1, k1⟩
  go_wp2_with fail
  go_ret
  exact ⟨_, rfl, o1, k1⟩

