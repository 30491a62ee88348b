import Derived.Test.YtndhijckbponkaaGreatDoorDat
import Derived.Test.YtndhijckbponkaaGreatDoorI
import Derived.RegionTactic
/- what the laws' helpers do with slices of slices of int -/
namespace Go.Proofs.YtndhijckbponkaaGreatDoor
open Go.RowKit

def szN (n : Nat) (left : Int) : Int := if (n : Int) ≤ left then left - n else -1
set_option maxRecDepth 100000 in
set_option maxHeartbeats 1000000 in
theorem szIntS_any (a : Option Addr) (n c : Nat) (left : Int) (w : World) (hn : n ≤ 9223372036854775807) (h0 : 0 ≤ left) (h1 : left ≤ 1048576) :
    Calls Tryz.prog 29 #[.slice a n c, .int .i64 left] w fun e w' => e = .returned (.int .i64 (szN n left)) ∧ w = w' := by
  have hw : IntKind.i64.wrap (left - (n : Int)) = left - (n : Int) := IntWalk.i64_in _ (by omega)
  have hn0 : (0 : Int) ≤ (n : Int) := Int.natCast_nonneg _
  by_cases hl : (n : Int) ≤ left
  · have hlt : ¬ left - (n : Int) < 0 := by omega
    have H : Hid (szN n left = left - (n : Int)) := Lib.hid (if_pos hl)
    clear hl
    go_enter Tryz.func29, Tryz.ntmps29
    go_wp2
    go_ret
    exact ⟨ret_int H.out.symm, rfl⟩
  · have hlt : left - (n : Int) < 0 := by omega
    have H : Hid (szN n left = -1) := Lib.hid (if_neg hl)
    clear hl
    go_enter Tryz.func29, Tryz.ntmps29
    go_wp2
    go_ret
    exact ⟨ret_int H.out.symm, rfl⟩

end Go.Proofs.YtndhijckbponkaaGreatDoor
