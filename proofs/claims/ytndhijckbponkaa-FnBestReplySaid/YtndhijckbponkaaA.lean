import Derived.Test.YtndhijckbponkaaBase
import Derived.Test.YtndhijckbponkaaP
namespace Go.Proofs.Ytndhijckbponkaa
open Go.RowKit

set_option maxHeartbeats 400000 in
theorem l1In_any (x a b : Int) (w : World) :
    Calls Try.prog 62 #[.int .i64 x, .int .i64 a, .int .i64 b] w fun e w' => e = .returned (.bool (inB x a b)) ∧ w = w' := by
  by_cases h1 : a ≤ x <;> by_cases h2 : x ≤ b
  all_goals
    have H : Hid (inB x a b = (decide (a ≤ x) && decide (x ≤ b))) := rfl
    go_enter Try.func62, Try.ntmps62
    go_wp2
    go_ret
    exact ⟨ret_bool (by rw [H.out]; simp [h1, h2]), rfl⟩

set_option maxHeartbeats 400000 in
theorem l1Own_any (A : Nat → Prop) (v : Value) (l : List Int) (w : World) (h : RI A w v l) :
    Calls Try.prog 69 #[v] w (Ret fun v' w' => OI w.heap.size w' v' l ∧ Chg No w w') := by
  go_enter Try.func69, Try.ntmps69
  have hL := h.len
  go_wp2_with (at_builtin; refine wapp rfl (.tmp 3) (.tmp 4) rfl (OI.zero (Nat.le_refl w.heap.size)) ((h.weak (fun _ hk _ => hk.elim)).keep ((Chg.refl No w).alloc _)) rfl rfl (by simpa using hL) (by simp) ?_; intro v1 w1 h1 h2 h3)
  go_ret
  exact ⟨_, rfl, by simpa using h1, ((Chg.refl No w).alloc _).own h2 (OI.zero (Nat.le_refl _)) (Nat.le_refl _)⟩

set_option maxHeartbeats 400000 in
theorem l4With_any (A : Nat → Prop) (v : Value) (l : List Int) (i : Nat) (x : Int) (w : World) (h : RI A w v l) (hi : i < l.length) :
    Calls Try.prog 99 #[v, .int .i64 i, .int .i64 x] w (Ret fun v' w' => OI w.heap.size w' v' (l.set i x) ∧ Chg No w w') := by
  go_enter Try.func99, Try.ntmps99
  go_wp2_with fail
  refine (l1Own_any A v l w h).mono ?_
  rintro e w1 ⟨v1, rfl, h1, h2⟩
  obtain ⟨a, cap, rfl, hcap, hmax, hv⟩ := h1.view
  obtain ⟨g, rfl, hg1, hg2, hcell, hfr⟩ := hv (by omega)
  have hc := hcell i hi
  have hf := hfr i
  obtain ⟨h3, h4⟩ := h1.store i x
  go_wp2
  go_ret
  exact ⟨_, rfl, h3, h2.step h4 (fun k hk hl => by omega)⟩

set_option maxHeartbeats 400000 in
theorem l1Least_any (a b : Int) (w : World) :
    Calls Try.prog 115 #[.int .i64 a, .int .i64 b] w fun e w' => e = .returned (.int .i64 (min a b)) ∧ w = w' := by
  by_cases h : a < b
  all_goals
    go_enter Try.func115, Try.ntmps115
    go_wp2
    go_ret
    exact ⟨ret_int (by omega), rfl⟩
end Go.Proofs.Ytndhijckbponkaa
