import Derived.Test.YtodnkkmjjlfoiaaGreatNd
import Derived.ChangeKeysEq
/- two numbers compared as an array, as a Frac -/
namespace Go.Proofs.YtodnkkmjjlfoiaaGreat
open Go.RowKit
theorem eqInt_run (d : Nat) (x : Int) (W : World) : (Op.equalIn (d + 1) 3 (.int .i64 x) (.int .i64 x)).run Tryz.prog W = .ok true W := by
  simp [Op.equalIn, run_underlying Tryz.underlying3]
set_option maxRecDepth 100000 in
theorem eqA2_run (x y : Int) (W : World) : (Op.equalIn 10000 73 (.agg #[.int .i64 x, .int .i64 y]) (.agg #[.int .i64 x, .int .i64 y])).run Tryz.prog W = .ok true W := by
  obtain ⟨i, hi⟩ : ∃ i, Tryz.prog.info? 3 = some i := ⟨_, rfl⟩
  rw [show (10000 : Nat) = 9999 + 1 from rfl, run_equalIn_array W 9999 (n := 2) (e := 3) _ _ Tryz.underlying73 hi]
  have p0 : (part 3 #[.int .i64 x, .int .i64 y] (0 * Tryz.prog.cellsOf 3)).run Tryz.prog W = .ok (.int .i64 x) W := by kernel_rfl
  have p1 : (part 3 #[.int .i64 x, .int .i64 y] (1 * Tryz.prog.cellsOf 3)).run Tryz.prog W = .ok (.int .i64 y) W := by kernel_rfl
  have e0 : (Op.equalIn 9999 3 (.int .i64 x) (.int .i64 x)).run Tryz.prog W = .ok true W := eqInt_run 9998 x W
  have e1 : (Op.equalIn 9999 3 (.int .i64 y) (.int .i64 y)).run Tryz.prog W = .ok true W := eqInt_run 9998 y W
  rw [Nat.one_mul] at p1
  rw [Nat.zero_mul] at p0
  show (Op.eqItems 9999 3 (Tryz.prog.cellsOf 3) _ _ [0, 1]).run Tryz.prog W = _
  simp only [Op.eqItems, Sem.run_bind, Nat.zero_mul, Nat.one_mul, p0, Result.andThen_ok, e0, Bool.not_true, Bool.false_eq_true, if_false, p1, e1, Sem.run_pure]
set_option maxRecDepth 100000 in
theorem eqFr_run' (d : Nat) (x y : Int) (W : World) : (Op.equalIn (d + 1 + 1) 61 (.agg #[.int .i64 x, .int .i64 y]) (.agg #[.int .i64 x, .int .i64 y])).run Tryz.prog W = .ok true W := by
  have p0 : (part 3 #[.int .i64 x, .int .i64 y] 0).run Tryz.prog W = .ok (.int .i64 x) W := by kernel_rfl
  have p1 : (part 3 #[.int .i64 x, .int .i64 y] 1).run Tryz.prog W = .ok (.int .i64 y) W := by kernel_rfl
  have e0 := eqInt_run d x W
  have e1 := eqInt_run d y W
  have hs : Tryz.prog.stoodInHeld 61 = false := by kernel_rfl
  unfold Op.equalIn
  simp [run_underlying Tryz.underlying61, hs, p0, p1, e0, e1]
theorem eqFr_run (x y : Int) (W : World) : (Op.equalIn 10000 61 (.agg #[.int .i64 x, .int .i64 y]) (.agg #[.int .i64 x, .int .i64 y])).run Tryz.prog W = .ok true W := eqFr_run' 9998 x y W
end Go.Proofs.YtodnkkmjjlfoiaaGreat
