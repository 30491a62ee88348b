import Derived.Test.YtndhijckbponkaaJa
/- fractions compared crosswise, plain; an algorithm's average -/
namespace Go.Proofs.Ytndhijckbponkaa

theorem cross_le {A1 W1 A2 W2 n1 d1 n2 d2 : Int} (h : A1 * W2 ≤ A2 * W1) (h1 : n1 * W1 = A1 * d1) (h2 : n2 * W2 = A2 * d2) (hd1 : 0 ≤ d1) (hd2 : 0 ≤ d2) (hW1 : 0 < W1) (hW2 : 0 < W2) : n1 * d2 ≤ n2 * d1 := by
  have hWW : 0 < W1 * W2 := Int.mul_pos hW1 hW2
  have hdd := Int.mul_nonneg hd1 hd2
  have h3 := Int.mul_le_mul_of_nonneg_right h hdd
  have e1 : n1 * d2 * (W1 * W2) = A1 * W2 * (d1 * d2) := by
    have : n1 * d2 * (W1 * W2) = (n1 * W1) * (d2 * W2) := by simp only [Int.mul_assoc, Int.mul_left_comm]
    rw [this, h1]
    simp only [Int.mul_left_comm, Int.mul_comm]
  have e2 : n2 * d1 * (W1 * W2) = A2 * W1 * (d1 * d2) := by
    have : n2 * d1 * (W1 * W2) = (n2 * W2) * (d1 * W1) := by simp only [Int.mul_left_comm, Int.mul_comm]
    rw [this, h2]
    simp only [Int.mul_left_comm, Int.mul_comm]
  rw [← e1, ← e2] at h3
  exact Int.le_of_mul_le_mul_right h3 hWW
/-- the costs of a strategy, as the law sums them -/
def sumS (p : Pr) (τ : Nat → List Int → Nat) (s : Nat) : Chs → Int
  | [] => 0
  | (q, w) :: cs => w * rest p τ s [] q + sumS p τ s cs
theorem sumS_part (p : Pr) (τ : Nat → List Int → Nat) (s : Nat) : ∀ cs : Chs, sumS p τ s cs = part p τ s [] cs
  | [] => rfl
  | (q, w) :: cs => by
    simp only [sumS, part, List.isPrefixOf_nil_left, if_true, List.length_nil, List.drop_zero]
    rw [sumS_part p τ s cs]
/-- FnBestReply: the best replies' costs -/
theorem reply_sum {p : Pr} (hp : PrB p) {cs : Chs} {L : Nat} (hc : ChB p.sv.length L cs) {s : Nat} (hs : s < p.mv.length) : sumS p (bestR p cs L) s cs = ahead p cs L s [] := by
  rw [sumS_part, ahead_best hp hc L s [] hs (by simp)]
end Go.Proofs.Ytndhijckbponkaa
