import Derived.Test.YtmfhlojmoehmiaaGreatCo
import Derived.Test.YtmfhlojmoehmiaaGreatH
/- ContentsOf of the reference -/
namespace Go.Proofs.YtmfhlojmoehmiaaGreat
open Go.RowKit

set_option maxRecDepth 100000 in
set_option maxHeartbeats 400000 in
theorem l4Sorted_any (A : Nat → Prop) (v : Value) (l : List Int) (w : World) (h : RI A w v l) :
    Calls Tryz.prog 173 #[v] w (Ret fun r w' => OI w.heap.size w' r (diffL l) ∧ Chg No w w') := by
  go_enter Tryz.func173, Tryz.ntmps173
  go_wp2_with fail
  refine (l3Different_any A v l w h).mono ?_
  rintro e w1 ⟨v1, rfl, o1, k1⟩
  go_wp2_with fail
  go_ret
  exact ⟨_, rfl, o1, k1⟩
end Go.Proofs.YtmfhlojmoehmiaaGreat
