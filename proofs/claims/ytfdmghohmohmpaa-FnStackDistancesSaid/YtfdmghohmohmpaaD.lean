import Derived.Test.YtfdmghohmohmpaaC
namespace Go.Proofs.Ytfdmghohmohmpaa
open Go.RowKit

theorem fld4 (x0 x1 x2 x3 : Value) (z : Int) (w : World) : (Instr.field 34 (.agg #[x0, x1, x2, x3, .int .i64 z]) 4).run Try.prog w = .ok (.int .i64 z) w := by kernel_rfl
end Go.Proofs.Ytfdmghohmohmpaa
