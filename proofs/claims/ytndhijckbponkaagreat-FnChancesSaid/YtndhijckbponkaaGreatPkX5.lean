import Derived.Test.YtndhijckbponkaaGreatDat
import Derived.Test.YtndhijckbponkaaGreatFr
import Derived.Test.YtndhijckbponkaaGreatPkX3
import Derived.Test.YtndhijckbponkaaGreatT
import Derived.Test.YtndhijckbponkaaGreatPkX4
/- markIntSS, heldIntSS -/
namespace Go.Proofs.YtndhijckbponkaaGreat
open Go.RowKit

/-- one of its slices is written -/
theorem OII.view {base : Nat} {w : World} {v : Value} {ll : List (List Int)} {F : Nat → Prop} (h : OII base w v ll F) : ∃ a cap, v = .slice a ll.length cap ∧ ll.length ≤ cap ∧ cap ≤ 9223372036854775807 ∧
    ∀ i, i < ll.length → ∃ g x, a = some ⟨g, 0, none⟩ ∧ g < w.heap.size ∧ w.cell? ⟨g, i, none⟩ = some x ∧ OI base w x (ll.getD i []) ∧ (∀ q, own x q → F q) ∧ F g ∧ ¬ own x g ∧
      ∀ w' l', OI base w' x l' → Chg (own x) w w' → OII base w' v (ll.set i l') F := by
  obtain ⟨vs, h1, h2, h3, h4, h5, h6⟩ := h
  obtain ⟨a, cap, rfl, hc1, hc2, _, hvw⟩ := h2.view
  refine ⟨a, cap, rfl, hc1, hc2, fun i hi => ?_⟩
  obtain ⟨g, rfl, hg1, hg2, hcell, _⟩ := hvw (by omega)
  refine ⟨g, vs.getD i undef, rfl, hg2, hcell i (by omega), h3 i hi, fun q hq => (h6 q).2 (.inr ⟨i, hi, hq⟩), (h6 g).2 (.inl (own_slice.2 rfl)), fun hq => h4 i hi g (own_slice.2 rfl) hq, fun w' l' ho hc => ?_⟩
  refine ⟨vs, by simpa using h1, by simpa using h2.step hc (fun q hq hq' => h4 i hi q hq hq'), fun j hj => ?_, fun j hj => h4 j (by simpa using hj), fun j j' hjj hj' => h5 j j' hjj (by simpa using hj'), fun q => by simpa using h6 q⟩
  have hj : j < ll.length := by simpa using hj
  by_cases hij : j = i
  · subst hij
    rw [show (ll.set j l').getD j [] = l' by rw [List.getD_eq_getElem?_getD, List.getElem?_set_self hi]; rfl]
    exact ho
  · rw [show (ll.set i l').getD j [] = ll.getD j [] by simp only [List.getD_eq_getElem?_getD, List.getElem?_set_ne (Ne.symm hij)]]
    refine (h3 j hj).step hc (fun q hq hq' => ?_)
    rcases Nat.lt_or_ge i j with h | h
    · exact h5 i j h hj q hq' hq
    · exact h5 j i (by omega) hi q hq hq'
end Go.Proofs.YtndhijckbponkaaGreat

/- ContentsOf, both sides -/
namespace Go.Proofs.YtndhijckbponkaaGreat
open Go.RowKit

/-- a call at an operation -/
theorem ocall {o : Oper} {a : Act} {K : Act → World → Prop} {Q : Exit → Act → World → Prop} {w : World} {f : FuncId} {args : Array Value} {φ : Value → World → Prop}
    (ho : (execOp a.eval o).run Tryz.prog w = .ok (.enter f args) w) (h : Calls Tryz.prog f args w (Ret φ)) (hk : ∀ v w', φ v w' → K (a.put o.dst v) w') : Oper.wp Tryz.prog o a w K Q := by
  unfold Oper.wp
  rw [ho]
  refine h.mono (fun e w' hr => ?_)
  obtain ⟨v, rfl, hp⟩ := hr
  exact hk v w' hp
end Go.Proofs.YtndhijckbponkaaGreat
