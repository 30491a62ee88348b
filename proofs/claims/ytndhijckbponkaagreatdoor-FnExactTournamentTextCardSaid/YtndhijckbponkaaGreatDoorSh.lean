import Derived.Test.YtndhijckbponkaaGreatDoorBase
import Derived.WalkKit
import Derived.ProofKit
import Derived.OpenShut
import Derived.ShutString
import Derived.ChangeOld
import Derived.Below
/- the arguments of a law, opened -/
namespace Go.Proofs.YtndhijckbponkaaGreatDoor
open Go.RowKit Go.ChangeShapes Go.WideShapes Go.ChangeAt

section
variable {H : Type} {enc : TypeId × Value → H} {W : World} {spare : Nat → Bool} {held : Bool}
/-- a slice of int that came in -/
theorem open_ri {fuel : Nat} {x : Value} {y : DataW H × List MemPlace} (hsp : ∀ b, spare b = true) (h : DataW.trod enc Tryz.prog W 0 spare held fuel 23 [x] = some y) :
    ∃ a n q, x = .slice a n q ∧ n ≤ 9223372036854775807 ∧ (n ≤ 17592186044416 → ∃ l : List Int, l.length = n ∧ RI No W (.slice a n q) l) := by
  rcases open_ints Tryz.underlying23 Tryz.underlying3 (by kernel_rfl) h with ⟨hcs, _⟩ | ⟨x', len, cap, zs, hcs, _, hl, hm, hz, _, hcell, _⟩
  · simp only [List.cons.injEq, and_true] at hcs
    subst hcs
    exact ⟨none, 0, 0, rfl, by omega, fun _ => ⟨[], rfl, RI.nil No W⟩⟩
  · simp only [List.cons.injEq, and_true] at hcs
    subst hcs
    rw [hsp, if_pos rfl] at hz
    have hm' : cap ≤ 9223372036854775807 := by simpa [maxLen] using hm
    refine ⟨some x', len, cap, rfl, by omega, fun hn => ⟨zs.take len, by rw [List.length_take]; omega, ?_⟩⟩
    have hlen : (zs.take len).length = len := by rw [List.length_take]; omega
    refine ⟨some x', cap, (by rw [hlen]), (by omega), hm', (by omega), (fun e => by cases e), fun hne => ?_⟩
    have hpos : 0 < len := by
      rcases Nat.eq_zero_or_pos len with h0 | h0
      · subst h0; simp at hne
      · exact h0
    obtain ⟨b, off, spot⟩ := x'
    have g0 := hcell 0 (by omega)
    have hspot : spot = none := by simpa [Addr.add] using World.cell?_spot g0
    subst hspot
    refine ⟨b, off, rfl, fun e => e, World.block_lt_of_cell? W _ g0, fun i hi => ?_⟩
    have hi' : i < len := by omega
    have := hcell i (by omega)
    have e : (⟨b, off, none⟩ : Addr).add i = ⟨b, off + i, none⟩ := by unfold Addr.add; split <;> simp_all
    rw [e] at this
    rw [this, List.getD_eq_getElem?_getD, List.getD_eq_getElem?_getD, List.getElem?_take_of_lt hi']
theorem open_i64 {fuel : Nat} {x : Value} {y : DataW H × List MemPlace} (h : DataW.trod enc Tryz.prog W 0 spare held fuel 3 [x] = some y) : ∃ n, x = .int .i64 n := by
  obtain ⟨n, e, _⟩ := DataW.trod_int Tryz.underlying3 h
  exact ⟨n, by simpa using e⟩
end

theorem cells_cache : Tryz.prog.cellsOf 93 = 5 := by kernel_rfl
theorem cells_int : Tryz.prog.cellsOf 3 = 1 := by kernel_rfl
theorem cells_ints : Tryz.prog.cellsOf 23 = 1 := by kernel_rfl
theorem len5 {α : Type} {l : List α} (h : l.length = 5) : ∃ a b c d e, l = [a, b, c, d, e] := by
  match l, h with
  | [a, b, c, d, e], _ => exact ⟨a, b, c, d, e, rfl⟩
section
variable {H : Type} {enc : TypeId × Value → H} {W : World} {spare : Nat → Bool} {held : Bool}
/-- a Cache of the law that came in -/
theorem open_cache {fuel : Nat} {cs : List Value} {y : DataW H × List MemPlace} (hsp : ∀ b, spare b = true) (h : DataW.trod enc Tryz.prog W 0 spare held fuel 93 cs = some y) :
    ∃ p k hd a n q a' n' q', cs = [.int .i64 p, .int .i64 k, .slice a n q, .slice a' n' q', .int .i64 hd] ∧ n ≤ 9223372036854775807 ∧ n' ≤ 9223372036854775807 ∧
      (n ≤ 17592186044416 → ∃ l : List Int, l.length = n ∧ RI No W (.slice a n q) l) ∧ (n' ≤ 17592186044416 → ∃ l : List Int, l.length = n' ∧ RI No W (.slice a' n' q') l) := by
  obtain ⟨xs, m, _, _, hlen, hxl, hf⟩ := DataW.trod_struct Tryz.underlying93 h
  rw [cells_cache] at hlen
  obtain ⟨x0, x1, x2, x3, x4, rfl⟩ := len5 hlen
  obtain ⟨y0, y1, y2, y3, y4, rfl⟩ := len5 (l := xs) (by simpa using hxl)
  have f0 : DataW.trod enc Tryz.prog W 0 spare held m 3 (([x0, x1, x2, x3, x4].drop 0).take (Tryz.prog.cellsOf 3)) = some y0 := hf 0 _ rfl
  rw [cells_int] at f0
  have f1 : DataW.trod enc Tryz.prog W 0 spare held m 3 (([x0, x1, x2, x3, x4].drop 1).take (Tryz.prog.cellsOf 3)) = some y1 := hf 1 _ rfl
  rw [cells_int] at f1
  have f2 : DataW.trod enc Tryz.prog W 0 spare held m 23 (([x0, x1, x2, x3, x4].drop 2).take (Tryz.prog.cellsOf 23)) = some y2 := hf 2 _ rfl
  rw [cells_ints] at f2
  have f3 : DataW.trod enc Tryz.prog W 0 spare held m 23 (([x0, x1, x2, x3, x4].drop 3).take (Tryz.prog.cellsOf 23)) = some y3 := hf 3 _ rfl
  rw [cells_ints] at f3
  have f4 : DataW.trod enc Tryz.prog W 0 spare held m 3 (([x0, x1, x2, x3, x4].drop 4).take (Tryz.prog.cellsOf 3)) = some y4 := hf 4 _ rfl
  rw [cells_int] at f4
  simp only [List.drop_zero, List.drop_succ_cons, List.take_succ_cons, List.take_zero] at f0 f1 f2 f3 f4
  obtain ⟨p, rfl⟩ := open_i64 f0
  obtain ⟨k, rfl⟩ := open_i64 f1
  obtain ⟨a, n, q, rfl, h1, h2⟩ := open_ri hsp f2
  obtain ⟨a', n', q', rfl, h1', h2'⟩ := open_ri hsp f3
  obtain ⟨hd, rfl⟩ := open_i64 f4
  exact ⟨p, k, hd, a, n, q, a', n', q', rfl, h1, h1', h2, h2'⟩
end
end Go.Proofs.YtndhijckbponkaaGreatDoor
