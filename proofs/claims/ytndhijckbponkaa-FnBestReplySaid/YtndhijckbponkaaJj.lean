import Derived.Test.YtndhijckbponkaaJe
/- valid metrics, problems, chances: what the two sides' tests say (plain) -/
namespace Go.Proofs.Ytndhijckbponkaa

def cellA (d : List (List Int)) (x y : Nat) : Int := (d.getD x []).getD y 0
/-- a valid Metric -/
def MetP (d : List (List Int)) : Prop := (1 ≤ d.length ∧ d.length ≤ 6) ∧ (∀ x, x < d.length → (d.getD x []).length = d.length) ∧
  (∀ x y, x < d.length → y < d.length → cellA d x y = cellA d y x ∧ (x = y → cellA d x y = 0) ∧ (x ≠ y → 1 ≤ cellA d x y ∧ cellA d x y ≤ 99)) ∧
  ∀ x y z, x < d.length → y < d.length → z < d.length → cellA d x z ≤ cellA d x y + cellA d y z
/-- a valid Problem -/
def PrP (p : Pr) : Prop := (1 ≤ p.mv.length ∧ p.mv.length ≤ 4) ∧ MetP p.mv ∧ (1 ≤ p.sv.length ∧ p.sv.length ≤ 4) ∧
  ∀ r, r < p.sv.length → (p.sv.getD r []).length = p.mv.length ∧ (∀ s, s < p.mv.length → -1 ≤ svA p r s ∧ svA p r s ≤ 20) ∧ ∃ s, s < p.mv.length ∧ 0 ≤ svA p r s
theorem PrP.mv_in {p : Pr} (h : PrP p) {a b : Nat} (ha : a < p.mv.length) (hb : b < p.mv.length) : 0 ≤ mvA p a b ∧ mvA p a b ≤ 99 := by
  obtain ⟨_, h2, h3⟩ := h.2.1.2.2.1 a b ha hb
  show 0 ≤ cellA p.mv a b ∧ cellA p.mv a b ≤ 99
  by_cases e : a = b
  · rw [h2 e]; omega
  · have := h3 e; omega
theorem PrP.prB {p : Pr} (h : PrP p) : PrB p := by
  refine ⟨fun a b ha hb => (h.mv_in ha hb).1, fun r hr => ?_⟩
  obtain ⟨_, _, s, hs, h0⟩ := h.2.2.2 r hr
  exact ⟨s, hs, by unfold okA; simpa using h0⟩
theorem PrP.cost {p : Pr} (h : PrP p) : ∀ a b r, a < p.mv.length → b < p.mv.length → r < p.sv.length → mvA p a b + svA p r b ≤ 119 := fun a b r ha hb hr => by
  have h1 := (h.mv_in ha hb).2
  have h2 := ((h.2.2.2 r hr).2.1 b hb).2
  omega
/-- valid Chances -/
def ChP (k maxN maxL : Nat) (qs : List (List Int)) (ws : List Int) : Prop := (1 ≤ qs.length ∧ qs.length ≤ maxN) ∧ ws.length = qs.length ∧ (∀ w ∈ ws, 1 ≤ w ∧ w ≤ 9) ∧
  ∀ q ∈ qs, q.length = (qs.getD 0 []).length ∧ q.length ≤ maxL ∧ ∀ r ∈ q, 0 ≤ r ∧ r < (k : Int)
theorem ChP.chB {k maxN maxL : Nat} {qs : List (List Int)} {ws : List Int} (h : ChP k maxN maxL qs ws) : ChB k (qs.getD 0 []).length (qs.zip ws) := fun x hx => by
  obtain ⟨_, _, h3, h4⟩ := h
  obtain ⟨h5, h6⟩ := List.of_mem_zip (a := x.1) (b := x.2) hx
  obtain ⟨h7, _, h8⟩ := h4 _ h5
  have := h3 _ h6
  exact ⟨h7, h8, by omega⟩
theorem ChP.len {k maxN maxL : Nat} {qs : List (List Int)} {ws : List Int} (h : ChP k maxN maxL qs ws) : (qs.getD 0 []).length ≤ maxL := by
  obtain ⟨⟨h1, _⟩, _, _, h4⟩ := h
  have hm : qs.getD 0 [] ∈ qs := by
    rw [List.getD_eq_getElem?_getD, List.getElem?_eq_getElem (by omega : 0 < qs.length)]
    exact List.getElem_mem _
  exact (h4 _ hm).2.1
theorem wS_le9 : ∀ (qs : List (List Int)) (ws : List Int) (seen : List Int), (∀ w ∈ ws, 1 ≤ w ∧ w ≤ 9) → wS (qs.zip ws) seen ≤ 9 * (qs.length : Int)
  | [], _, _, _ => by simp [wS]
  | q :: qs, [], _, _ => by simp [wS]; omega
  | q :: qs, w :: ws, seen, h => by
    have ih := wS_le9 qs ws seen (fun x hx => h x (List.mem_cons_of_mem _ hx))
    have hw := h w (List.mem_cons_self ..)
    simp only [List.zip_cons_cons, wS, List.length_cons]
    push_cast
    split <;> omega
end Go.Proofs.Ytndhijckbponkaa
