import Derived.Test.YtndhijckbponkaaJa
/- requests drawn each for itself, plain -/
namespace Go.Proofs.Ytndhijckbponkaa

/-- the least expected cost of n more requests that are drawn each for itself -/
def free (p : Pr) (ws : Nat → Int) (W : Int) : Nat → Nat → Int
  | 0, _ => 0
  | n + 1, s => sumK (fun r => ws r * (bl (okA p r) (fun s' => W ^ n * (mvA p s s' + svA p r s') + free p ws W n s') p.mv.length).2) p.sv.length
end Go.Proofs.Ytndhijckbponkaa

/- the products of chances, mixtures, plain -/
namespace Go.Proofs.Ytndhijckbponkaa

/-- what a mixture of strategies pays for a sequence, times the weights -/
def mixS (p : Pr) (s : Nat) (q : List Int) : List ((Nat → List Int → Nat) × Int) → Int
  | [] => 0
  | (τ, x) :: l => x * rest p τ s [] q + mixS p s q l
def xSum : List ((Nat → List Int → Nat) × Int) → Int
  | [] => 0
  | (_, x) :: l => x + xSum l
def mixP (p : Pr) (s : Nat) (cs : Chs) : List ((Nat → List Int → Nat) × Int) → Int
  | [] => 0
  | (τ, x) :: l => x * part p τ s [] cs + mixP p s cs l
theorem mixP_ge {p : Pr} (hp : PrB p) {cs : Chs} {L : Nat} (hc : ChB p.sv.length L cs) (s : Nat) (hs : s < p.mv.length) : ∀ (l : List ((Nat → List Int → Nat) × Int)), (∀ a ∈ l, TauB p a.1 ∧ 0 ≤ a.2) → xSum l * ahead p cs L s [] ≤ mixP p s cs l
  | [], _ => by simp [xSum, mixP]
  | (τ, x) :: l, h => by
    have ih := mixP_ge hp hc s hs l (fun a ha => h a (List.mem_cons_of_mem _ ha))
    obtain ⟨h1, h2⟩ := h (τ, x) (List.mem_cons_self ..)
    have h3 := ahead_le hp hc h1 L s [] hs (by simp)
    have h4 := Int.mul_le_mul_of_nonneg_left h3 h2
    simp only [xSum, mixP]
    rw [Int.add_mul]
    simp only at h4
    omega
theorem mixP_nil (p : Pr) (s : Nat) : ∀ l, mixP p s [] l = 0
  | [] => rfl
  | (τ, x) :: l => by simp only [mixP, part]; rw [mixP_nil p s l]; simp
theorem mixP_cons (p : Pr) (s : Nat) (q : List Int) (w : Int) (cs : Chs) : ∀ l, mixP p s ((q, w) :: cs) l = w * mixS p s q l + mixP p s cs l
  | [] => by simp [mixP, mixS]
  | (τ, x) :: l => by
    simp only [mixP, mixS, part, List.isPrefixOf_nil_left, if_true, List.length_nil, List.drop_zero]
    rw [mixP_cons p s q w cs l, Int.mul_add, Int.mul_add]
    have : x * (w * rest p τ s [] q) = w * (x * rest p τ s [] q) := Int.mul_left_comm ..
    omega
theorem mixP_le {p : Pr} {s : Nat} {l : List ((Nat → List Int → Nat) × Int)} {most : Int} : ∀ (cs : Chs), (∀ x ∈ cs, 0 < x.2 ∧ mixS p s x.1 l ≤ most) → mixP p s cs l ≤ wS cs [] * most
  | [], _ => by rw [mixP_nil]; simp [wS]
  | (q, w) :: cs, h => by
    have ih := mixP_le cs (fun x hx => h x (List.mem_cons_of_mem _ hx))
    obtain ⟨h1, h2⟩ := h (q, w) (List.mem_cons_self ..)
    have h3 := Int.mul_le_mul_of_nonneg_left h2 (Int.le_of_lt h1)
    rw [mixP_cons]
    simp only [wS, List.isPrefixOf_nil_left, if_true]
    rw [Int.add_mul]
    simp only at h3
    omega
/-- Yao's bound -/
theorem yao_bound {p : Pr} (hp : PrB p) {cs : Chs} {L : Nat} (hc : ChB p.sv.length L cs) {s : Nat} (hs : s < p.mv.length) {l : List ((Nat → List Int → Nat) × Int)} (hl : ∀ a ∈ l, TauB p a.1 ∧ 0 ≤ a.2) {most : Int} (hm : ∀ x ∈ cs, mixS p s x.1 l ≤ most) :
    xSum l * ahead p cs L s [] ≤ wS cs [] * most :=
  Int.le_trans (mixP_ge hp hc s hs l hl) (mixP_le cs (fun x hx => ⟨(hc x hx).2.2, hm x hx⟩))
end Go.Proofs.Ytndhijckbponkaa
