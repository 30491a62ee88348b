import Derived.Test.YtmnohickmidfkaaGreatDoorQ
import Derived.Test.YtmnohickmidfkaaGreatDoorH
/- FaultPlaces, both sides -/
namespace Go.Proofs.YtmnohickmidfkaaGreatDoor
open Go.RowKit

def JF (base bo : Nat) (c : Ca) (l : List Int) (j : Nat) (U : Nat → Prop) (w : World) : Prop :=
  ∃ ov, w.cell? ⟨bo, 0, none⟩ = some ov ∧ w.frozen? ⟨bo, 0, none⟩ = false ∧ OI base w ov (placesTo c l j) ∧ (∀ q, U q ↔ q = bo ∨ own ov q) ∧ ¬ own ov bo ∧ base ≤ bo

def askedB (n p k : Int) (l : List Int) : Bool := inB p 1 7 && inB k 1 6 && (inB n 1 8 && decide (l.length ≤ 60) && belowB n l)
theorem askedB_ok {n p k : Int} {l : List Int} (h : askedB n p k l = true) : Ok (newC p k) := by
  simp only [askedB, Bool.and_eq_true, inB_iff] at h
  exact ok_new h.1.1 h.1.2

