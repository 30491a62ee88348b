import Derived.Test.YtndhijckbponkaaGreatUc
import Derived.Test.YtndhijckbponkaaGreatBase
import Derived.WalkKit
import Derived.ProofKit
import Derived.OpenShut
import Derived.ShutString
import Derived.ChangeOld
import Derived.Below
import Derived.ChangeSlices
/- a code that came in, opened -/
namespace Go.Proofs.YtndhijckbponkaaGreat
open Go.RowKit Go.ChangeShapes Go.WideShapes Go.ChangeAt

section
variable {H : Type} {enc : TypeId × Value → H} {W : World} {spare : Nat → Bool} {held : Bool}
theorem open_code {fuel : Nat} {a0 : Option Addr} {n0 c0 : Nat} {y : DataW H × List MemPlace} (hsp : ∀ b, spare b = true) (h : DataW.trod enc Tryz.prog W 0 spare held fuel 22 [.slice a0 n0 c0] = some y) : Code W (.slice a0 n0 c0) n0 := by
  rcases open_ints Tryz.underlying22 Tryz.underlying5 (by kernel_rfl) h with ⟨hcs, _⟩ | ⟨x', len, cap, zs, hcs, _, hl, hm, hz, _, hcell, hwf⟩
  · simp only [List.cons.injEq, and_true, Value.slice.injEq] at hcs
    obtain ⟨rfl, rfl, rfl⟩ := hcs
    exact ⟨[], rfl, ⟨none, 0, rfl, by omega, by omega, rfl, fun _ => rfl, fun h => absurd h (by omega)⟩, fun x hx => by cases hx⟩
  · simp only [List.cons.injEq, and_true, Value.slice.injEq] at hcs
    obtain ⟨rfl, rfl, rfl⟩ := hcs
    rw [hsp, if_pos rfl] at hz
    have hm' : c0 ≤ 9223372036854775807 := by simpa [maxLen] using hm
    have hlen : (zs.take n0).length = n0 := by rw [List.length_take]; omega
    refine ⟨zs.take n0, hlen, ⟨some x', c0, rfl, hl, hm', by rw [List.length_map, hlen]; omega, (fun e => by cases e), fun hpos => ?_⟩, fun x hx => ?_⟩
    · obtain ⟨b, off, spot⟩ := x'
      have g0 := hcell 0 (by omega)
      have hspot : spot = none := by simpa [Addr.add] using World.cell?_spot g0
      subst hspot
      refine ⟨b, off, rfl, fun e => e, World.block_lt_of_cell? W _ g0, fun i hi => ?_⟩
      rw [List.length_map, hlen] at hi
      have := hcell i (by omega)
      have e : (⟨b, off, none⟩ : Addr).add i = ⟨b, off + i, none⟩ := by unfold Addr.add; split <;> simp_all
      rw [e] at this
      have hil : i < zs.length := by omega
      rw [this]
      simp [List.getD_eq_getElem?_getD, List.getElem?_take_of_lt hi, hil]
    · have := hwf x (List.mem_of_mem_take hx)
      unfold Lit.wf at this
      simp only [Bool.and_eq_true, decide_eq_true_eq] at this
      have h1 : IntKind.u8.min = 0 := rfl
      have h2 : IntKind.u8.max = 255 := rfl
      omega
end
end Go.Proofs.YtndhijckbponkaaGreat
