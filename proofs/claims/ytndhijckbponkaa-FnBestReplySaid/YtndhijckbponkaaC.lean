import Derived.Test.YtndhijckbponkaaA
namespace Go.Proofs.Ytndhijckbponkaa
open Go.RowKit

theorem OI.set {base : Nat} {w : World} {v : Value} {l : List Int} (h : OI base w v l) (b o : Nat) (x : Value) (hb : ¬ own v b) : OI base (w.setCell ⟨b, o, none⟩ x) v l :=
  h.step (T := fun k => k = b) ((Chg.refl (fun k => k = b) w).setCell (p := ⟨b, o, none⟩) (fun _ => rfl) x) (fun _ hk e => hb (e ▸ hk))
theorem OI.fin {base : Nat} {A : Nat → Prop} {w w1 w2 : World} {v : Value} {l : List Int} (h : OI base w1 v l) {T : Nat → Prop} (hc : Chg T w1 w2) (hT : ∀ k, own v k → ¬ T k) (hA : Bd A w) (hb : w.heap.size ≤ base) : RI A w2 v l :=
  (h.step hc hT).readBd hA hb
end Go.Proofs.Ytndhijckbponkaa
