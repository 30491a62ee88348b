import Derived.Test.YtndhijckbponkaaGreatJa
/- the work function is a lower bound, plain -/
namespace Go.Proofs.YtndhijckbponkaaGreat

def nextW (p : Pr) (f : Nat → Int) (r : Nat) : Nat → Int := fun t => (bl (okA p r) (fun s => f s + svA p r s + mvA p s t) p.mv.length).2
def workW (p : Pr) : (Nat → Int) → List Int → Nat → Int
  | f, [] => f
  | f, r :: q => workW p (nextW p f r.toNat) q
def leastW (p : Pr) (f : Nat → Int) : Int := (bl (fun _ => true) f p.mv.length).2
/-- the least cost of a schedule -/
def optW (p : Pr) (s : Nat) (q : List Int) : Int := leastW p (workW p (fun t => mvA p s t) q)
theorem leastW_le {p : Pr} {f : Nat → Int} (hf : ∀ t, t < p.mv.length → 0 ≤ f t) {t : Nat} (ht : t < p.mv.length) : leastW p f ≤ f t := by
  rcases bl_spec (ok := fun _ => true) (f := f) p.mv.length (fun s hs _ => hf s hs) with ⟨_, h⟩ | ⟨_, _, _, _, h⟩
  · have := h t ht; cases this
  · exact h t ht rfl
theorem nextW_le {p : Pr} (hp : PrB p) {f : Nat → Int} (hf : ∀ t, t < p.mv.length → 0 ≤ f t) {r s t : Nat} (hs : s < p.mv.length) (ho : okA p r s = true) (ht : t < p.mv.length) : nextW p f r t ≤ f s + svA p r s + mvA p s t := by
  have hn : ∀ x, x < p.mv.length → okA p r x = true → 0 ≤ f x + svA p r x + mvA p x t := fun x hx hok => by
    have h1 := hf x hx
    have h2 : 0 ≤ svA p r x := by unfold okA at hok; simpa using hok
    have h3 := hp.1 x t hx ht
    omega
  rcases bl_spec (ok := okA p r) (f := fun s => f s + svA p r s + mvA p s t) p.mv.length hn with ⟨_, h⟩ | ⟨_, _, _, _, h⟩
  · rw [h s hs] at ho; cases ho
  · exact h s hs ho
theorem nextW_nn {p : Pr} (hp : PrB p) {f : Nat → Int} (hf : ∀ t, t < p.mv.length → 0 ≤ f t) {r t : Nat} (hr : r < p.sv.length) (ht : t < p.mv.length) : 0 ≤ nextW p f r t := by
  have hn : ∀ x, x < p.mv.length → okA p r x = true → 0 ≤ f x + svA p r x + mvA p x t := fun x hx hok => by
    have h1 := hf x hx
    have h2 : 0 ≤ svA p r x := by unfold okA at hok; simpa using hok
    have h3 := hp.1 x t hx ht
    omega
  obtain ⟨x, hx, hxo⟩ := hp.2 r hr
  rcases bl_spec (ok := okA p r) (f := fun s => f s + svA p r s + mvA p s t) p.mv.length hn with ⟨_, h⟩ | ⟨h, _⟩
  · rw [h x hx] at hxo; cases hxo
  · exact h
theorem work_le {p : Pr} (hp : PrB p) (hd : ∀ s, s < p.mv.length → mvA p s s = 0) {τ : Nat → List Int → Nat} (ht : TauB p τ) : ∀ (q : List Int) (f : Nat → Int) (r s : Nat) (seen : List Int), (∀ t, t < p.mv.length → 0 ≤ f t) → r < p.sv.length → s < p.mv.length → okA p r s = true → (∀ x ∈ q, 0 ≤ x ∧ x < (p.sv.length : Int)) →
    leastW p (workW p (nextW p f r) q) ≤ f s + svA p r s + rest p τ s seen q
  | [], f, r, s, seen, hf, hr, hs, ho, _ => by
    have h1 := leastW_le (p := p) (f := nextW p f r) (fun t ht => nextW_nn hp hf hr ht) hs
    have h2 := nextW_le hp hf hs ho hs
    rw [hd s hs] at h2
    simp only [workW, rest]
    omega
  | y :: q, f, r, s, seen, hf, hr, hs, ho, hq => by
    obtain ⟨hy0, hy1⟩ := hq y (List.mem_cons_self ..)
    obtain ⟨r', rfl⟩ : ∃ r' : Nat, y = (r' : Int) := ⟨y.toNat, by omega⟩
    obtain ⟨h1, h2⟩ := ht s seen r' hs (by omega)
    have h3 := nextW_le hp hf hs ho h1
    have h4 := work_le hp hd ht q (nextW p f r) r' (τ s (seen ++ [(r' : Int)])) (seen ++ [(r' : Int)]) (fun t ht => nextW_nn hp hf hr ht) (by omega) h1 h2 (fun x hx => hq x (List.mem_cons_of_mem _ hx))
    simp only [workW, rest, Int.toNat_natCast]
    omega
/-- no strategy pays less for a sequence -/
theorem opt_le {p : Pr} (hp : PrB p) (hd : ∀ s, s < p.mv.length → mvA p s s = 0) {τ : Nat → List Int → Nat} (ht : TauB p τ) {s : Nat} (hs : s < p.mv.length) (q : List Int) (hq : ∀ x ∈ q, 0 ≤ x ∧ x < (p.sv.length : Int)) : optW p s q ≤ rest p τ s [] q := by
  have h0 : ∀ t, t < p.mv.length → 0 ≤ mvA p s t := fun t ht => hp.1 s t hs ht
  unfold optW
  cases q with
  | nil =>
    have h1 := leastW_le (p := p) (f := fun t => mvA p s t) h0 hs
    rw [hd s hs] at h1
    exact h1
  | cons y q =>
    obtain ⟨hy0, hy1⟩ := hq y (List.mem_cons_self ..)
    obtain ⟨r', rfl⟩ : ∃ r' : Nat, y = (r' : Int) := ⟨y.toNat, by omega⟩
    obtain ⟨h1, h2⟩ := ht s [] r' hs (by omega)
    have h4 := work_le hp hd ht q (fun t => mvA p s t) r' (τ s ([] ++ [(r' : Int)])) ([] ++ [(r' : Int)]) h0 (by omega) h1 h2 (fun x hx => hq x (List.mem_cons_of_mem _ hx))
    simp only [workW, rest, Int.toNat_natCast]
    omega
/-- the least costs on average -/
def optS (p : Pr) (s : Nat) : Chs → Int
  | [] => 0
  | (q, w) :: cs => w * optW p s q + optS p s cs
theorem optS_le {p : Pr} (hp : PrB p) (hd : ∀ s, s < p.mv.length → mvA p s s = 0) {τ : Nat → List Int → Nat} (ht : TauB p τ) {s : Nat} (hs : s < p.mv.length) {L : Nat} : ∀ (cs : Chs), ChB p.sv.length L cs → optS p s cs ≤ part p τ s [] cs
  | [], _ => Int.le_refl _
  | (q, w) :: cs, h => by
    have ih := optS_le hp hd ht hs cs (fun x hx => h x (List.mem_cons_of_mem _ hx))
    obtain ⟨_, h2, h3⟩ := h (q, w) (List.mem_cons_self ..)
    have h4 := Int.mul_le_mul_of_nonneg_left (opt_le hp hd ht hs q h2) (Int.le_of_lt h3)
    simp only [optS, part, List.isPrefixOf_nil_left, if_true, List.length_nil, List.drop_zero]
    simp only at h4
    omega
/-- FnChances: the least costs are at most the best replies' costs -/
theorem chances_low {p : Pr} (hp : PrB p) (hd : ∀ s, s < p.mv.length → mvA p s s = 0) {s : Nat} (hs : s < p.mv.length) {L : Nat} {cs : Chs} (hc : ChB p.sv.length L cs) : optS p s cs ≤ ahead p cs L s [] := by
  rw [ahead_best hp hc L s [] hs (by simp)]
  exact optS_le hp hd (bestR_tau hp hc) hs cs hc
end Go.Proofs.YtndhijckbponkaaGreat
