import Derived.Test.YtndhijckbponkaaGreatDoorId
/- the names of policies; a text cut at a byte by the reference -/
namespace Go.Proofs.YtndhijckbponkaaGreatDoor
open Go.RowKit

def polV : List Value := polL.map sv
theorem policyNames_any (w : World) (hw : Lay w) :
    Calls Tryz.prog 78 #[] w fun e w' => e = .returned (.slice (some ⟨w.heap.size, 0, none⟩) 7 7) ∧ w' = w.alloc (.cells polV.toArray 9) := by
  obtain ⟨mx, hmx⟩ := hw.max
  have hs := Tryz.strings_Split ⟨#[108, 114, 117, 32, 102, 105, 102, 111, 32, 108, 105, 102, 111, 32, 102, 108, 117, 115, 104, 32, 108, 102, 117, 32, 99, 108, 111, 99, 107, 32, 109, 114, 117]⟩ ⟨#[32]⟩ mx w (by decide) hmx (by decide)
  have e1 : Lib.countB ⟨#[108, 114, 117, 32, 102, 105, 102, 111, 32, 108, 105, 102, 111, 32, 102, 108, 117, 115, 104, 32, 108, 102, 117, 32, 99, 108, 111, 99, 107, 32, 109, 114, 117]⟩ ⟨#[32]⟩ = 6 := by decide +kernel
  have e2 : (Lib.splitB ⟨#[32]⟩ 0 6 ⟨#[108, 114, 117, 32, 102, 105, 102, 111, 32, 108, 105, 102, 111, 32, 102, 108, 117, 115, 104, 32, 108, 102, 117, 32, 99, 108, 111, 99, 107, 32, 109, 114, 117]⟩).map Value.string = polV := by kernel_rfl
  rw [e1, e2] at hs
  have HS := Lib.hid hs
  clear hs e1 e2
  go_enter Tryz.func78, Tryz.ntmps78
  go_wp2_with (go_at_call 41; refine HS.out.mono ?_; rintro e w1 ⟨rfl, rfl⟩)
  go_ret
  exact ⟨rfl, rfl⟩
theorem polV_cells (w : World) (i : Nat) (hi : i < 7) : (w.alloc (.cells polV.toArray 9)).cell? ⟨w.heap.size, i, none⟩ = some (sv (polL.getD i [])) := by
  rw [World.cell?_alloc_new]
  have : i = 0 ∨ i = 1 ∨ i = 2 ∨ i = 3 ∨ i = 4 ∨ i = 5 ∨ i = 6 := by omega
  rcases this with rfl | rfl | rfl | rfl | rfl | rfl | rfl <;> rfl
def nam8 : List (List UInt8) := [] :: polL
theorem nam8_at (i : Nat) (hi : i < 8) (w : World) : (w.alloc (.cells (nam8.map sv).toArray 9)).cell? ⟨w.heap.size, i, none⟩ = some (sv (nam8.getD i [])) := by
  rw [World.cell?_alloc_new]
  have : i = 0 ∨ i = 1 ∨ i = 2 ∨ i = 3 ∨ i = 4 ∨ i = 5 ∨ i = 6 ∨ i = 7 := by omega
  rcases this with rfl | rfl | rfl | rfl | rfl | rfl | rfl | rfl <;> rfl
set_option maxRecDepth 100000 in
theorem l4Names_any (p : Nat) (hp : p ≤ 7) (w : World) :
    Calls Tryz.prog 74 #[.int .i64 (p : Int)] w fun e w' => e = .returned (.slice (some ⟨w.heap.size, p, none⟩) (8 - p) (8 - p)) ∧ w' = w.alloc (.cells (nam8.map sv).toArray 9) := by
  have hp8 : ¬ 8 = p := by omega
  go_enter Tryz.func74, Tryz.ntmps74
  go_wp2
  go_ret
  exact ⟨rfl, rfl⟩

end Go.Proofs.YtndhijckbponkaaGreatDoor
