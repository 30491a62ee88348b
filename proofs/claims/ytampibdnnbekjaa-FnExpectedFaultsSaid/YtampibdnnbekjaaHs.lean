import Derived.Test.YtampibdnnbekjaaFr
import Derived.Test.YtampibdnnbekjaaV
import Derived.Test.YtampibdnnbekjaaU
/- HitShare, both sides, and its law -/
namespace Go.Proofs.Ytampibdnnbekjaa
open Go.RowKit

def hitV (n p k : Int) (l : List Int) : Fr := if askedB n p k l && decide (0 < l.length) then mkFr ((l.length : Int) - ((places (newC p k) l).length : Int)) (l.length : Int) else ⟨0, 0, false⟩

set_option maxRecDepth 100000 in
set_option maxHeartbeats 1000000 in
theorem eqFrac_same (a b : Int) (w : World) :
    Calls Try.prog 8 #[.agg #[.int .i64 a, .int .i64 b], .agg #[.int .i64 a, .int .i64 b]] w (Ret fun v w' => v = .bool true ∧ Chg No w w') := by
  go_enter Try.func8, Try.ntmps8
  go_wp2_with fail
  go_ret
  exact ⟨_, rfl, rfl, ((Chg.refl No w).alloc _).alloc _⟩
end Go.Proofs.Ytampibdnnbekjaa
