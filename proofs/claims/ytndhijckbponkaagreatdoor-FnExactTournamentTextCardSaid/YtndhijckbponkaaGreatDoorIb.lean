import Derived.Test.YtndhijckbponkaaGreatDoorYd
import Derived.Test.YtndhijckbponkaaGreatDoorDat
import Derived.Test.YtndhijckbponkaaGreatDoorIa
/- a text parted at a byte, whole: both texts do it alike -/
namespace Go.Proofs.YtndhijckbponkaaGreatDoor
open Go.RowKit

theorem elSt : El 59 9 (.string ByteArray.empty) 1 16 := El.mk' Tryz.underlying59 (by kernel_rfl) rfl (by decide)
/-- a row of texts that the call owns -/
def SRow (base : Nat) (w : World) (v : Value) (L : List (List UInt8)) : Prop := OS 9 1 base w v L.length (L.map sv)
/-- a row of texts that is read -/
def SRd (w : World) (v : Value) (L : List (List UInt8)) : Prop := RF No w v 1 L.length (L.map sv)
theorem SRow.rd {base : Nat} {w : World} {v : Value} {L : List (List UInt8)} (h : SRow base w v L) : SRd w v L := h.readNo
theorem SRow.keep {base : Nat} {w w' : World} {v : Value} {L : List (List UInt8)} (h : SRow base w v L) (hc : Chg No w w') : SRow base w' v L := OS.keep h hc
theorem SRd.keep {w w' : World} {v : Value} {L : List (List UInt8)} (h : SRd w v L) (hc : Chg No w w') : SRd w' v L := RF.keep h hc
theorem SRd.view {w : World} {v : Value} {L : List (List UInt8)} (h : SRd w v L) (hn : L ≠ []) : ∃ b off cap, v = .slice (some ⟨b, off, none⟩) L.length cap ∧ L.length ≤ cap ∧ cap ≤ 9223372036854775807 ∧ b < w.heap.size ∧ ∀ i, i < L.length → w.cell? ⟨b, off + i, none⟩ = some (sv (L.getD i [])) := by
  obtain ⟨a, cap, rfl, h1, h2, h3, h0, h4⟩ := h
  have hp : 0 < L.length := by cases L with
    | nil => exact absurd rfl hn
    | cons x L => simp
  obtain ⟨b, off, rfl, _, hb, hc⟩ := h4 hp
  refine ⟨b, off, cap, rfl, h1, h2, hb, fun i hi => ?_⟩
  rw [hc i (by simpa using hi)]
  simp [List.getD_eq_getElem?_getD, hi]
theorem OS.is {E : TypeId} {sz base : Nat} {w : World} {v : Value} {n n' : Nat} {cs cs' : List Value} (h : OS E sz base w v n cs) (hn : n = n') (hc : cs = cs') : OS E sz base w v n' cs' := by subst hn; subst hc; exact h
end Go.Proofs.YtndhijckbponkaaGreatDoor
