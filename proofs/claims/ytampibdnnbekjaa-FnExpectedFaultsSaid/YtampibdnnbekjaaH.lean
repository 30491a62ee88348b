import Derived.Test.YtampibdnnbekjaaG
namespace Go.Proofs.Ytampibdnnbekjaa
open Go.RowKit

theorem quiet_sym {P : Program} {f : FuncId} {args : Array Value} {w : World} {n : Nat} {v : Value}
    (h : Calls P f args (w.drewN n) fun e w' => e = .returned v ∧ w.drewN n = w') : Calls P f args (w.drewN n) fun e w'' => e = .returned v ∧ ∃ m, w'' = w.drewN m :=
  Calls.quiet_of_same (h.mono fun _ _ h => ⟨h.1, h.2.symm⟩)

set_option maxHeartbeats 400000 in
theorem l4New_any (p k : Int) (w : World) :
    Calls Try.prog 20 #[.int .i64 p, .int .i64 k] w (Ret fun v' w' => (∀ A, Bd A w → RC A w' v' (newC p k)) ∧ Chg No w w') := by
  go_enter Try.func20, Try.ntmps20
  go_wp2
  refine bodyPost_ret (v := .agg #[.int .i64 p, .int .i64 k, .slice (some ⟨w.heap.size + 1, 0, none⟩) 0 0, .slice (some ⟨w.heap.size + 1 + 1, 0, none⟩) 0 0, .int .i64 0]) (by simp [results, Try.results20, go_sem]) rfl ?_
  exact ⟨_, rfl, fun A _ => ⟨_, _, rfl, RI.empty A _ _ 0 (by omega) (by simp), RI.empty A _ _ 0 (by omega) (by simp)⟩, (((Chg.refl No w).alloc _).alloc _).alloc _⟩
end Go.Proofs.Ytampibdnnbekjaa
