import Derived.Test.YtndhijckbponkaaPk
/- Problems and Chances of the laws: their size, copies, comparisons -/
namespace Go.Proofs.Ytndhijckbponkaa
open Go.RowKit

theorem chg1 (w : World) (b i : Nat) (x : Value) : Chg (fun q => q = b) w (w.setCell ⟨b, i, none⟩ x) := (Chg.refl (fun q => q = b) w).setCell (p := ⟨b, i, none⟩) (fun _ => rfl) x
end Go.Proofs.Ytndhijckbponkaa
