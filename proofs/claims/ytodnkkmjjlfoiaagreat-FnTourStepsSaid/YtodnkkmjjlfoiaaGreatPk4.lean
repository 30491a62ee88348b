import Derived.Test.YtodnkkmjjlfoiaaGreatPk2
import Derived.Test.YtodnkkmjjlfoiaaGreatPk1
import Derived.Test.YtodnkkmjjlfoiaaGreatPk3
import Derived.Test.YtodnkkmjjlfoiaaGreatShelf
import Derived.RegionTactic
/- numbers in ascending order, each once: rising, l3Different -/
namespace Go.Proofs.YtodnkkmjjlfoiaaGreat
open Go.RowKit

theorem OI.holds {base : Nat} {w : World} {g n cap : Nat} {l : List Int} (h : OI base w (.slice (some ⟨g, 0, none⟩) n cap) l) : Go.Sort.Holds (Value.int .i64) w g 0 l.toArray := by
  intro j hj
  have hj' : j < l.length := by simpa using hj
  obtain ⟨h1, h2, _⟩ := h.at
  rw [Nat.zero_add]
  refine ⟨?_, h2 j⟩
  rw [h1 j hj', getElem!_pos l.toArray j hj]
  simp [List.getD_eq_getElem?_getD, List.getElem?_eq_getElem hj']
end Go.Proofs.YtodnkkmjjlfoiaaGreat

/- fractions: greatest common divisors, Fracs made of numbers -/
namespace Go.Proofs.YtodnkkmjjlfoiaaGreat
open Go.RowKit

set_option maxRecDepth 100000 in
set_option maxHeartbeats 400000 in
theorem l1Most_any (a b : Int) (w : World) :
    Calls Tryz.prog 111 #[.int .i64 a, .int .i64 b] w fun e w' => e = .returned (.int .i64 (max a b)) ∧ w = w' := by
  by_cases h : b < a
  all_goals
    go_enter Tryz.func111, Tryz.ntmps111
    go_wp2
    go_ret
    exact ⟨ret_int (by omega), rfl⟩

end Go.Proofs.YtodnkkmjjlfoiaaGreat

/- what the laws' helpers do with slices of slices of int -/
namespace Go.Proofs.YtodnkkmjjlfoiaaGreat
open Go.RowKit

def tot : List (List Int) → Nat
  | [] => 0
  | l :: ll => l.length + tot ll
theorem tot_append (a b : List (List Int)) : tot (a ++ b) = tot a + tot b := by
  induction a with
  | nil => simp [tot]
  | cons x a ih => simp [tot, ih]; omega
theorem tot_take (ll : List (List Int)) (k : Nat) : tot (ll.take k) ≤ tot ll := by
  have := tot_append (ll.take k) (ll.drop k)
  rw [List.take_append_drop] at this
  omega
theorem tot_succ (ll : List (List Int)) (k : Nat) (h : k < ll.length) : tot (ll.take (k + 1)) = tot (ll.take k) + (ll.getD k []).length := by
  rw [List.take_succ_eq_append_getElem h, tot_append]
  simp [tot, List.getD_eq_getElem?_getD, List.getElem?_eq_getElem h]
end Go.Proofs.YtodnkkmjjlfoiaaGreat

/- markIntSS, heldIntSS -/
namespace Go.Proofs.YtodnkkmjjlfoiaaGreat
open Go.RowKit

end Go.Proofs.YtodnkkmjjlfoiaaGreat

/- ContentsOf, both sides -/
namespace Go.Proofs.YtodnkkmjjlfoiaaGreat
open Go.RowKit

/-- a call at an operation -/
theorem ocall {o : Oper} {a : Act} {K : Act → World → Prop} {Q : Exit → Act → World → Prop} {w : World} {f : FuncId} {args : Array Value} {φ : Value → World → Prop}
    (ho : (execOp a.eval o).run Tryz.prog w = .ok (.enter f args) w) (h : Calls Tryz.prog f args w (Ret φ)) (hk : ∀ v w', φ v w' → K (a.put o.dst v) w') : Oper.wp Tryz.prog o a w K Q := by
  unfold Oper.wp
  rw [ho]
  refine h.mono (fun e w' hr => ?_)
  obtain ⟨v, rfl, hp⟩ := hr
  exact hk v w' hp
end Go.Proofs.YtodnkkmjjlfoiaaGreat
