import Derived.Test.YtampibdnnbekjaaR
import Derived.Test.YtampibdnnbekjaaSo
import Derived.Test.YtampibdnnbekjaaSm
/- ContentsOf, both sides -/
namespace Go.Proofs.Ytampibdnnbekjaa
open Go.RowKit

/-- the pages after each of the first j requests, in ascending order -/
def pagesTo (c : Ca) (l : List Int) : Nat → List (List Int)
  | 0 => []
  | j + 1 => pagesTo c l j ++ [diffL (runC c (l.take (j + 1))).pages]
theorem pagesTo_len (c : Ca) (l : List Int) (j : Nat) : (pagesTo c l j).length = j := by
  induction j with
  | zero => rfl
  | succ j ih => simp [pagesTo, ih]
theorem pagesTo_tot {c : Ca} (hok : Ok c) (l : List Int) (j : Nat) : tot (pagesTo c l j) ≤ 6 * j := by
  induction j with
  | zero => simp [pagesTo, tot]
  | succ j ih =>
    have := ok_run hok (l.take (j + 1))
    have h1 := this.len
    have h2 := this.size
    have h3 := diffL_len_le (runC c (l.take (j + 1))).pages
    rw [pagesTo, tot_append]
    simp only [tot]
    omega
/-- a call at an operation -/
theorem ocall {o : Oper} {a : Act} {K : Act → World → Prop} {Q : Exit → Act → World → Prop} {w : World} {f : FuncId} {args : Array Value} {φ : Value → World → Prop}
    (ho : (execOp a.eval o).run Try.prog w = .ok (.enter f args) w) (h : Calls Try.prog f args w (Ret φ)) (hk : ∀ v w', φ v w' → K (a.put o.dst v) w') : Oper.wp Try.prog o a w K Q := by
  unfold Oper.wp
  rw [ho]
  refine h.mono (fun e w' hr => ?_)
  obtain ⟨v, rfl, hp⟩ := hr
  exact hk v w' hp
end Go.Proofs.Ytampibdnnbekjaa
