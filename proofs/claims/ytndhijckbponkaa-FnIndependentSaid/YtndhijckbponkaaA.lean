import Derived.Test.YtndhijckbponkaaBase
import Derived.Test.YtndhijckbponkaaP
namespace Go.Proofs.Ytndhijckbponkaa
open Go.RowKit

set_option maxHeartbeats 400000 in
theorem l1In_any (x a b : Int) (w : World) :
    Calls Try.prog 62 #[.int .i64 x, .int .i64 a, .int .i64 b] w fun e w' => e = .returned (.bool (inB x a b)) ∧ w = w' := by
  by_cases h1 : a ≤ x <;> by_cases h2 : x ≤ b
  all_goals
    have H : Hid (inB x a b = (decide (a ≤ x) && decide (x ≤ b))) := rfl
    go_enter Try.func62, Try.ntmps62
    go_wp2
    go_ret
    exact ⟨ret_bool (by rw [H.out]; simp [h1, h2]), rfl⟩

set_option maxHeartbeats 400000 in
theorem l1Least_any (a b : Int) (w : World) :
    Calls Try.prog 115 #[.int .i64 a, .int .i64 b] w fun e w' => e = .returned (.int .i64 (min a b)) ∧ w = w' := by
  by_cases h : a < b
  all_goals
    go_enter Try.func115, Try.ntmps115
    go_wp2
    go_ret
    exact ⟨ret_int (by omega), rfl⟩
end Go.Proofs.Ytndhijckbponkaa
