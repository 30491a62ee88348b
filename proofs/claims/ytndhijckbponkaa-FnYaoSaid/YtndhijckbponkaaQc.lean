import Derived.Test.YtndhijckbponkaaBase
import Derived.BigQuiet
/-
  A region that draws its order, whose own operations only read and whose calls leave what was there as it was (they may make memory): one walk of the lexical order, the worlds behind a family 'F'.
-/


namespace Go.Proofs.Ytndhijckbponkaa
open Go.RowKit

theorem wp_region_C {P : Program} {id : Nat} {Q : Exit → Act → World → Prop} {a : Act} {w : World} {l : List Oper} (hm : P.follows .mixedOrders = true) (hB : Region.lexB .any l.toArray = true)
    (h : ∀ (σ : Type) (_ : Nonempty σ) (F : σ → World), (∀ n, Chg No w (F n)) → (∀ n w'', Chg No (F n) w'' → ∃ m, w'' = F m) →
      wpQuiet P l.toArray (fun w' => ∃ n, w' = F n) (fun a' => ∀ w', (∃ n, w' = F n) → Q .normal a' w') l a) : (Code.region id l.toArray true).wp P Q a w := by
  have hh := h {w' // Chg No w w'} ⟨⟨w, Chg.refl No w⟩⟩ (fun n => n.1) (fun n => n.2) (fun n w'' hc => ⟨⟨w'', n.2.keep hc⟩, rfl⟩)
  exact wp_region_quiet (C := fun w' => ∃ n : {w' // Chg No w w'}, w' = n.1) hm hB ⟨⟨_, (Chg.refl No w).drew⟩, rfl⟩ (by simpa using hh)
theorem fam_ret {P : Program} {σ : Type} {F : σ → World} (hcl : ∀ n w'', Chg No (F n) w'' → ∃ m, w'' = F m) {f : FuncId} {args : Array Value} {n : σ} {v : Value}
    (h : Calls P f args (F n) (Ret fun r w' => r = v ∧ Chg No (F n) w')) : Calls P f args (F n) fun e w'' => e = .returned v ∧ ∃ m, w'' = F m :=
  h.mono fun e w'' ⟨r, he, hr, hc⟩ => ⟨by rw [he, hr], hcl n w'' hc⟩
end Go.Proofs.Ytndhijckbponkaa
