import Derived.Test.YtndhijckbponkaaJa
/- fractions compared crosswise, plain; an algorithm's average -/
namespace Go.Proofs.Ytndhijckbponkaa

/-- the costs of a strategy, as the law sums them -/
def sumS (p : Pr) (τ : Nat → List Int → Nat) (s : Nat) : Chs → Int
  | [] => 0
  | (q, w) :: cs => w * rest p τ s [] q + sumS p τ s cs
theorem sumS_part (p : Pr) (τ : Nat → List Int → Nat) (s : Nat) : ∀ cs : Chs, sumS p τ s cs = part p τ s [] cs
  | [] => rfl
  | (q, w) :: cs => by
    simp only [sumS, part, List.isPrefixOf_nil_left, if_true, List.length_nil, List.drop_zero]
    rw [sumS_part p τ s cs]
/-- FnBestReply: the best replies' costs -/
theorem reply_sum {p : Pr} (hp : PrB p) {cs : Chs} {L : Nat} (hc : ChB p.sv.length L cs) {s : Nat} (hs : s < p.mv.length) : sumS p (bestR p cs L) s cs = ahead p cs L s [] := by
  rw [sumS_part, ahead_best hp hc L s [] hs (by simp)]
end Go.Proofs.Ytndhijckbponkaa
