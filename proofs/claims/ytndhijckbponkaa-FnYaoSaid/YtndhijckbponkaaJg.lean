import Derived.Test.YtndhijckbponkaaPkX5
/- a strategy's costs request by request, plain -/
namespace Go.Proofs.Ytndhijckbponkaa

def stTo (τ : Nat → List Int → Nat) (s : Nat) (q : List Int) : Nat → Nat
  | 0 => s
  | k + 1 => τ (stTo τ s q k) (q.take (k + 1))
def coTo (p : Pr) (τ : Nat → List Int → Nat) (s : Nat) (q : List Int) : Nat → Int
  | 0 => 0
  | k + 1 => coTo p τ s q k + (mvA p (stTo τ s q k) (stTo τ s q (k + 1)) + svA p (q.getD k 0).toNat (stTo τ s q (k + 1)))
theorem co_rest (p : Pr) (τ : Nat → List Int → Nat) (s : Nat) (q : List Int) : ∀ k, k ≤ q.length → coTo p τ s q k + rest p τ (stTo τ s q k) (q.take k) (q.drop k) = rest p τ s [] q
  | 0, _ => by simp [coTo, stTo]
  | k + 1, h => by
    have ih := co_rest p τ s q k (by omega)
    have hk : k < q.length := by omega
    have hd : q.drop k = q.getD k 0 :: q.drop (k + 1) := by
      rw [List.drop_eq_getElem_cons hk, List.getD_eq_getElem?_getD, List.getElem?_eq_getElem hk]; rfl
    have ht : q.take k ++ [q.getD k 0] = q.take (k + 1) := by
      rw [List.take_succ_eq_append_getElem hk, List.getD_eq_getElem?_getD, List.getElem?_eq_getElem hk]; rfl
    rw [hd] at ih
    simp only [rest, ht] at ih
    simp only [coTo]
    have e : stTo τ s q (k + 1) = τ (stTo τ s q k) (q.take (k + 1)) := rfl
    rw [e]
    omega
theorem co_all (p : Pr) (τ : Nat → List Int → Nat) (s : Nat) (q : List Int) : coTo p τ s q q.length = rest p τ s [] q := by
  have h := co_rest p τ s q q.length (Nat.le_refl _)
  rw [List.drop_length] at h
  simp only [rest] at h
  omega
theorem stTo_lt {p : Pr} {τ : Nat → List Int → Nat} (ht : TauB p τ) {s : Nat} (hs : s < p.mv.length) {q : List Int} (hq : ∀ x ∈ q, 0 ≤ x ∧ x < (p.sv.length : Int)) : ∀ k, k ≤ q.length → stTo τ s q k < p.mv.length
  | 0, _ => hs
  | k + 1, h => by
    have ih := stTo_lt ht hs hq k (by omega)
    have hk : k < q.length := by omega
    have hx : q[k] ∈ q := List.getElem_mem hk
    obtain ⟨h0, h1⟩ := hq _ hx
    obtain ⟨r, hr⟩ : ∃ r : Nat, q[k] = (r : Int) := ⟨q[k].toNat, by omega⟩
    have e : q.take (k + 1) = q.take k ++ [(r : Int)] := by rw [List.take_succ_eq_append_getElem hk, hr]
    show τ (stTo τ s q k) (q.take (k + 1)) < _
    rw [e]
    exact (ht _ _ r ih (by omega)).1
/-- an algorithm as a strategy: the state and the last request say where it goes -/
def algT (nx : List (List Int)) : Nat → List Int → Nat := fun s more => ((nx.getD s []).getD (more.getLastD 0).toNat 0).toNat
theorem algT_tau {p : Pr} {nx : List (List Int)} (h : ∀ s r, s < p.mv.length → r < p.sv.length → ∃ t : Nat, (nx.getD s []).getD r 0 = (t : Int) ∧ t < p.mv.length ∧ 0 ≤ svA p r t) : TauB p (algT nx) := fun s seen r hs hr => by
  obtain ⟨t, e, ht, hv⟩ := h s r hs hr
  have hl := last_snoc seen r
  have ee : algT nx s (seen ++ [(r : Int)]) = t := by unfold algT; rw [hl, e]; simp
  rw [ee]
  exact ⟨ht, by unfold okA; simpa using hv⟩
end Go.Proofs.Ytndhijckbponkaa
