import Derived.Test.YtodnkkmjjlfoiaaGreatPk4
import Derived.Test.YtodnkkmjjlfoiaaGreatPk3
import Derived.Test.YtodnkkmjjlfoiaaGreatK
import Derived.Test.YtodnkkmjjlfoiaaGreatBase
/- goneBy, InclusionBreak -/
namespace Go.Proofs.YtodnkkmjjlfoiaaGreat
open Go.RowKit

set_option maxHeartbeats 400000 in
theorem Contains_any (A : Nat → Prop) (v : Value) (l : List Int) (n : Int) (w : World) (h : RI A w v l) :
    Calls Tryz.prog 119 #[v, .int .i64 n] w fun e w' => e = .returned (.bool (hasB l n)) ∧ w = w' := by
  have H : Hid (decide (0 ≤ atI l n) = hasB l n) := Lib.hid (by
    rcases atI_spec l n with ⟨h1, k, _, h2⟩ | ⟨h1, h2⟩
    · rw [h1, h2]; simp
    · rw [h1, h2]; rfl)
  go_enter Tryz.func119, Tryz.ntmps119
  go_wp2_with fail
  refine (Index_any A v l n w h).mono ?_
  rintro e w' ⟨rfl, rfl⟩
  go_wp2_with fail
  go_ret
  exact ⟨ret_bool H.out, rfl⟩

end Go.Proofs.YtodnkkmjjlfoiaaGreat
