import Derived.Test.YtndhijckbponkaaBase
import Derived.WalkKit
import Derived.ProofKit
import Derived.OpenShut
import Derived.ShutString
import Derived.ChangeOld
import Derived.Below
/- the arguments of a law, opened -/
namespace Go.Proofs.Ytndhijckbponkaa
open Go.RowKit Go.ChangeShapes Go.WideShapes Go.ChangeAt

section
variable {H : Type} {enc : TypeId × Value → H} {W : World} {spare : Nat → Bool} {held : Bool}
/-- a slice of int that came in -/
theorem open_ri {fuel : Nat} {x : Value} {y : DataW H × List MemPlace} (hsp : ∀ b, spare b = true) (h : DataW.trod enc Try.prog W 0 spare held fuel 25 [x] = some y) :
    ∃ a n q, x = .slice a n q ∧ n ≤ 9223372036854775807 ∧ (n ≤ 17592186044416 → ∃ l : List Int, l.length = n ∧ RI No W (.slice a n q) l) := by
  rcases open_ints Try.underlying25 Try.underlying3 (by kernel_rfl) h with ⟨hcs, _⟩ | ⟨x', len, cap, zs, hcs, _, hl, hm, hz, _, hcell, _⟩
  · simp only [List.cons.injEq, and_true] at hcs
    subst hcs
    exact ⟨none, 0, 0, rfl, by omega, fun _ => ⟨[], rfl, RI.nil No W⟩⟩
  · simp only [List.cons.injEq, and_true] at hcs
    subst hcs
    rw [hsp, if_pos rfl] at hz
    have hm' : cap ≤ 9223372036854775807 := by simpa [maxLen] using hm
    refine ⟨some x', len, cap, rfl, by omega, fun hn => ⟨zs.take len, by rw [List.length_take]; omega, ?_⟩⟩
    have hlen : (zs.take len).length = len := by rw [List.length_take]; omega
    refine ⟨some x', cap, (by rw [hlen]), (by omega), hm', (by omega), (fun e => by cases e), fun hne => ?_⟩
    have hpos : 0 < len := by
      rcases Nat.eq_zero_or_pos len with h0 | h0
      · subst h0; simp at hne
      · exact h0
    obtain ⟨b, off, spot⟩ := x'
    have g0 := hcell 0 (by omega)
    have hspot : spot = none := by simpa [Addr.add] using World.cell?_spot g0
    subst hspot
    refine ⟨b, off, rfl, fun e => e, World.block_lt_of_cell? W _ g0, fun i hi => ?_⟩
    have hi' : i < len := by omega
    have := hcell i (by omega)
    have e : (⟨b, off, none⟩ : Addr).add i = ⟨b, off + i, none⟩ := by unfold Addr.add; split <;> simp_all
    rw [e] at this
    rw [this, List.getD_eq_getElem?_getD, List.getD_eq_getElem?_getD, List.getElem?_take_of_lt hi']
end
end Go.Proofs.Ytndhijckbponkaa
