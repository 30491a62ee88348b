import Derived.Test.YtodnkkmjjlfoiaaGreatDm
import Derived.Test.YtodnkkmjjlfoiaaGreatSi
/- a TourStep that came in, opened -/
namespace Go.Proofs.YtodnkkmjjlfoiaaGreat
open Go.RowKit Go.ChangeShapes Go.WideShapes Go.ChangeAt

theorem cells_tstep : Tryz.prog.cellsOf 84 = 3 := by kernel_rfl
section
variable {H : Type} {enc : TypeId × Value → H} {W : World} {spare : Nat → Bool} {held : Bool}
theorem open_tstep {fuel : Nat} {cs : List Value} {y : DataW H × List MemPlace} (h : DataW.trod enc Tryz.prog W 0 spare held fuel 84 cs = some y) :
    ∃ k a b, cs = [.int .i64 k, .int .i64 a, .int .i64 b] := by
  obtain ⟨xs, m, _, _, hlen, hxl, hf⟩ := DataW.trod_struct Tryz.underlying84 h
  rw [cells_tstep] at hlen
  obtain ⟨x0, x1, x2, rfl⟩ := len3 hlen
  obtain ⟨y0, y1, y2, rfl⟩ := len3 (l := xs) (by simpa using hxl)
  have f0 : DataW.trod enc Tryz.prog W 0 spare held m 3 (([x0, x1, x2].drop 0).take (Tryz.prog.cellsOf 3)) = some y0 := hf 0 _ rfl
  have f1 : DataW.trod enc Tryz.prog W 0 spare held m 3 (([x0, x1, x2].drop 1).take (Tryz.prog.cellsOf 3)) = some y1 := hf 1 _ rfl
  have f2 : DataW.trod enc Tryz.prog W 0 spare held m 3 (([x0, x1, x2].drop 2).take (Tryz.prog.cellsOf 3)) = some y2 := hf 2 _ rfl
  rw [cells_int] at f0 f1 f2
  simp only [List.drop_zero, List.drop_succ_cons, List.take_succ_cons, List.take_zero] at f0 f1 f2
  obtain ⟨k, rfl⟩ := open_i64 f0
  obtain ⟨a, rfl⟩ := open_i64 f1
  obtain ⟨b, rfl⟩ := open_i64 f2
  exact ⟨k, a, b, rfl⟩
end
end Go.Proofs.YtodnkkmjjlfoiaaGreat
