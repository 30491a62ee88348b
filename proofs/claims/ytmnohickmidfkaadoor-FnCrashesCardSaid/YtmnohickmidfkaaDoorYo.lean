import Derived.Test.YtmnohickmidfkaaDoorBase
import Derived.WalkKit
import Derived.ProofKit
import Derived.OpenShut
import Derived.ShutString
import Derived.ChangeOld
import Derived.ChangeMaps5
import Derived.Below
/- a log and a record that came in, opened -/
namespace Go.Proofs.YtmnohickmidfkaaDoor
open Go.RowKit Go.ChangeShapes Go.WideShapes Go.ChangeAt

theorem cells_log : Tryd.prog.cellsOf 28 = 3 := by kernel_rfl
theorem cells_str : Tryd.prog.cellsOf 9 = 1 := by kernel_rfl
theorem cells_int1 : Tryd.prog.cellsOf 3 = 1 := by kernel_rfl
theorem len3' {α : Type} {l : List α} (h : l.length = 3) : ∃ a b c, l = [a, b, c] := by
  match l, h with
  | [a, b, c], _ => exact ⟨a, b, c, rfl⟩
section
variable {H : Type} {enc : TypeId × Value → H} {W : World} {spare : Nat → Bool} {held : Bool}
theorem open_bytes {fuel : Nat} {x : Value} {y : DataW H × List MemPlace} (h : DataW.trod enc Tryd.prog W 0 spare held fuel 9 [x] = some y) : ∃ l : List UInt8, x = .string ⟨l.toArray⟩ ∧ l.length ≤ 9223372036854775807 := by
  obtain ⟨s, e, _, hs⟩ := DataW.trod_string Tryd.underlying9 h
  refine ⟨s.data.toList, by simpa using e, ?_⟩
  unfold maxLen at hs
  rw [Array.length_toList]
  exact hs
theorem open_log {fuel : Nat} {cs : List Value} {y : DataW H × List MemPlace} (h : DataW.trod enc Tryd.prog W 0 spare held fuel 28 cs = some y) :
    ∃ (d p : List UInt8) (n : Int), cs = [.string ⟨d.toArray⟩, .string ⟨p.toArray⟩, .int .i64 n] ∧ d.length ≤ 9223372036854775807 ∧ p.length ≤ 9223372036854775807 := by
  obtain ⟨xs, m, _, _, hlen, hxl, hf⟩ := DataW.trod_struct Tryd.underlying28 h
  rw [cells_log] at hlen
  obtain ⟨x0, x1, x2, rfl⟩ := len3' hlen
  obtain ⟨y0, y1, y2, rfl⟩ := len3' (l := xs) (by simpa using hxl)
  have f0 : DataW.trod enc Tryd.prog W 0 spare held m 9 (([x0, x1, x2].drop 0).take (Tryd.prog.cellsOf 9)) = some y0 := hf 0 _ rfl
  rw [cells_str] at f0
  have f1 : DataW.trod enc Tryd.prog W 0 spare held m 9 (([x0, x1, x2].drop 1).take (Tryd.prog.cellsOf 9)) = some y1 := hf 1 _ rfl
  rw [cells_str] at f1
  have f2 : DataW.trod enc Tryd.prog W 0 spare held m 3 (([x0, x1, x2].drop 2).take (Tryd.prog.cellsOf 3)) = some y2 := hf 2 _ rfl
  rw [cells_int1] at f2
  simp only [List.drop_zero, List.drop_succ_cons, List.take_succ_cons, List.take_zero] at f0 f1 f2
  obtain ⟨d, rfl, h1⟩ := open_bytes f0
  obtain ⟨p, rfl, h2⟩ := open_bytes f1
  obtain ⟨n, e, _⟩ := DataW.trod_int Tryd.underlying3 f2
  obtain rfl : x2 = .int .i64 n := by simpa using e
  exact ⟨d, p, n, rfl, h1, h2⟩
end

theorem cells_rec : Tryd.prog.cellsOf 39 = 2 := by kernel_rfl
theorem len2' {α : Type} {l : List α} (h : l.length = 2) : ∃ a b, l = [a, b] := by
  match l, h with
  | [a, b], _ => exact ⟨a, b, rfl⟩
theorem open_rec {H : Type} {enc : TypeId × Value → H} {W : World} {spare : Nat → Bool} {held : Bool} {fuel : Nat} {cs : List Value} {y : DataW H × List MemPlace} (h : DataW.trod enc Tryd.prog W 0 spare held fuel 39 cs = some y) :
    ∃ (c r : List UInt8), cs = [.string ⟨c.toArray⟩, .string ⟨r.toArray⟩] ∧ c.length ≤ 9223372036854775807 ∧ r.length ≤ 9223372036854775807 := by
  obtain ⟨xs, m, _, _, hlen, hxl, hf⟩ := DataW.trod_struct Tryd.underlying39 h
  rw [cells_rec] at hlen
  obtain ⟨x0, x1, rfl⟩ := len2' hlen
  obtain ⟨y0, y1, rfl⟩ := len2' (l := xs) (by simpa using hxl)
  have f0 : DataW.trod enc Tryd.prog W 0 spare held m 9 (([x0, x1].drop 0).take (Tryd.prog.cellsOf 9)) = some y0 := hf 0 _ rfl
  rw [cells_str] at f0
  have f1 : DataW.trod enc Tryd.prog W 0 spare held m 9 (([x0, x1].drop 1).take (Tryd.prog.cellsOf 9)) = some y1 := hf 1 _ rfl
  rw [cells_str] at f1
  simp only [List.drop_zero, List.drop_succ_cons, List.take_succ_cons, List.take_zero] at f0 f1
  obtain ⟨d, rfl, h1⟩ := open_bytes f0
  obtain ⟨p, rfl, h2⟩ := open_bytes f1
  exact ⟨d, p, rfl, h1, h2⟩
end Go.Proofs.YtmnohickmidfkaaDoor
