import Derived.Test.YtfdmghohmohmpaaVo
/- StepCache, both sides -/
namespace Go.Proofs.Ytfdmghohmohmpaa
open Go.RowKit

def stepV (n : Int) (c : Ca) (x : Int) : Ca := if okB n c x then stepC c x else zeroC
theorem RCO.put5 {base : Nat} {w : World} {v : Value} {c : Ca} (h : RCO base w v c) {b : Nat} (hb : b < base) (x0 x1 x2 x3 x4 : Value) :
    RCO base (((((w.setCell ⟨b, 0, none⟩ x0).setCell ⟨b, 1, none⟩ x1).setCell ⟨b, 2, none⟩ x2).setCell ⟨b, 3, none⟩ x3).setCell ⟨b, 4, none⟩ x4) v c :=
  h.step ((Chg.refl (fun k => k = b) w).put5 (fun _ => rfl) x0 x1 x2 x3 x4) (fun q hq e => by have := (h.lt q hq).1; omega)
theorem Ret2.tup {φ : Value → Value → World → Prop} {a b : Value} {w : World} (h : φ a b w) : Ret2 φ (.returned (.tuple #[a, b])) w := ⟨a, b, rfl, h⟩
end Go.Proofs.Ytfdmghohmohmpaa
