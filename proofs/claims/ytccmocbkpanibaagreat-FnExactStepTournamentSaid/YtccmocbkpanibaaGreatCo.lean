import Derived.Test.YtccmocbkpanibaaGreatR
import Derived.Test.YtccmocbkpanibaaGreatSo
import Derived.Test.YtccmocbkpanibaaGreatSm
/- ContentsOf, both sides -/
namespace Go.Proofs.YtccmocbkpanibaaGreat
open Go.RowKit

/-- the pages after each of the first j requests, in ascending order -/
def pagesTo (c : Ca) (l : List Int) : Nat → List (List Int)
  | 0 => []
  | j + 1 => pagesTo c l j ++ [diffL (runC c (l.take (j + 1))).pages]
theorem pagesTo_len (c : Ca) (l : List Int) (j : Nat) : (pagesTo c l j).length = j := by
  induction j with
  | zero => rfl
  | succ j ih => simp [pagesTo, ih]
theorem pagesTo_tot {c : Ca} (hok : Ok c) (l : List Int) (j : Nat) : tot (pagesTo c l j) ≤ 6 * j := by
  induction j with
  | zero => simp [pagesTo, tot]
  | succ j ih =>
    have := ok_run hok (l.take (j + 1))
    have h1 := this.len
    have h2 := this.size
    have h3 := diffL_len_le (runC c (l.take (j + 1))).pages
    rw [pagesTo, tot_append]
    simp only [tot]
    omega
/-- a call at an operation -/
theorem ocall {o : Oper} {a : Act} {K : Act → World → Prop} {Q : Exit → Act → World → Prop} {w : World} {f : FuncId} {args : Array Value} {φ : Value → World → Prop}
    (ho : (execOp a.eval o).run Tryz.prog w = .ok (.enter f args) w) (h : Calls Tryz.prog f args w (Ret φ)) (hk : ∀ v w', φ v w' → K (a.put o.dst v) w') : Oper.wp Tryz.prog o a w K Q := by
  unfold Oper.wp
  rw [ho]
  refine h.mono (fun e w' hr => ?_)
  obtain ⟨v, rfl, hp⟩ := hr
  exact hk v w' hp
/-- a slice of one slice -/
theorem obuildS {o : Oper} {a : Act} {K : Act → World → Prop} {Q : Exit → Act → World → Prop} {w : World} (y : Operand) (xa : Option Addr) (xn xc : Nat)
    (ho : o.op = .buildSlice 136 1 #[(0, y)]) (hy : a.eval y = .slice xa xn xc)
    (h : ∀ g w', Chg No w w' → RF No w' (.slice (some ⟨g, 0, none⟩) 1 1) 1 1 [.slice xa xn xc] → K (a.put o.dst (.slice (some ⟨g, 0, none⟩) 1 1)) w') :
    Oper.wp Tryz.prog o a w K Q := by
  have h1 := h w.heap.size (w.alloc (.cells #[.slice xa xn xc] 23)) ((Chg.refl No w).alloc _)
    ⟨_, _, rfl, Nat.le_refl _, by omega, by simp, by simp, fun _ => ⟨w.heap.size, 0, rfl, fun e => e, by simp, fun i hi => by
      have : i = 0 := by simpa using hi
      subst this
      rw [World.cell?_alloc_new]; rfl⟩⟩
  unfold Oper.wp execOp
  simp only [ho, List.map_toArray, List.map_cons, List.map_nil, hy]
  go_simp
  exact h1

def JC (base bo : Nat) (c : Ca) (l : List Int) (j : Nat) (U : Nat → Prop) (w : World) : Prop :=
  ∃ ov F, w.cell? ⟨bo, 0, none⟩ = some ov ∧ w.frozen? ⟨bo, 0, none⟩ = false ∧ OII base w ov (pagesTo c l j) F ∧ (∀ q, U q ↔ q = bo ∨ F q) ∧ ¬ F bo ∧ base ≤ bo
theorem JC.keep {base bo : Nat} {c : Ca} {l : List Int} {j : Nat} {U : Nat → Prop} {w w' : World} {S : Nat → Prop} (h : JC base bo c l j U w) (hc : Chg S w w') (hs : ∀ q, U q → ¬ S q) : JC base bo c l j U w' := by
  obtain ⟨ov, F, h1, h2, h3, h4, h5, h6⟩ := h
  have hbl := World.block_lt_of_cell? w _ h1
  have hsb := hs bo ((h4 bo).2 (.inl rfl))
  exact ⟨ov, F, (hc.cellD bo 0 hbl hsb).trans h1, (hc.frozenD bo 0 hbl hsb).trans h2, h3.step hc (fun q hq => hs q ((h4 q).2 (.inr hq))), h4, h5, h6⟩
theorem JC.lt {base bo : Nat} {c : Ca} {l : List Int} {j : Nat} {U : Nat → Prop} {w : World} (h : JC base bo c l j U w) (q : Nat) (hq : U q) : q < w.heap.size := by
  obtain ⟨ov, F, h1, h2, h3, h4, h5, h6⟩ := h
  rcases (h4 q).1 hq with rfl | hq
  · exact World.block_lt_of_cell? w _ h1
  · exact (h3.lt q hq).2
theorem OII.open {base : Nat} {w : World} {v : Value} {ll : List (List Int)} {F : Nat → Prop} (h : OII base w v ll F) : ∃ vs, vs.length = ll.length ∧ OS 23 1 base w v ll.length vs ∧ (∀ i, i < ll.length → OI base w (vs.getD i undef) (ll.getD i [])) ∧
    (∀ i, i < ll.length → ∀ q, own v q → ¬ own (vs.getD i undef) q) ∧ (∀ i j, i < j → j < ll.length → ∀ q, own (vs.getD i undef) q → ¬ own (vs.getD j undef) q) ∧
    ∀ q, F q ↔ own v q ∨ ∃ i, i < ll.length ∧ own (vs.getD i undef) q := h
end Go.Proofs.YtccmocbkpanibaaGreat
