import Derived.Test.YtodnkkmjjlfoiaaBa
/- one item more than pages: a fault for each k requests alone, behind the first ones (plain) -/
namespace Go.Proofs.Ytodnkkmjjlfoiaa
open Go.RowKit

theorem fits_list {k : Nat} {c : List Int} (h : c.length ≤ k) : Fits k (· ∈ c) := ⟨c, h, fun _ h => h⟩
theorem sim_hits {k : Nat} {c : List Int} (hc : c.length ≤ k) {t : List Int} {f : Nat} (ht : Sim k t (· ∈ c) f) : ∀ h : List Int, (∀ x ∈ h, x ∈ c) → Sim k (h ++ t) (· ∈ c) f
  | [], _ => ht
  | x :: h, hh => ⟨(· ∈ c), hh x (List.mem_cons_self ..), fun _ e => .inl e, fits_list hc, f, sim_hits hc ht h (fun y hy => hh y (List.mem_cons_of_mem _ hy)), .inl ⟨hh x (List.mem_cons_self ..), rfl⟩⟩
theorem far_pick (l : List Int) : ∀ c : List Int, c ≠ [] → ∃ p, IsFar l c p
  | [], h => absurd rfl h
  | [x], _ => ⟨x, List.mem_cons_self .., fun q hq => by rw [List.mem_singleton.1 hq]; exact Nat.le_refl _⟩
  | x :: y :: c, _ => by
    obtain ⟨p, hp, hf⟩ := far_pick l (y :: c) (by simp)
    by_cases h : l.idxOf x ≤ l.idxOf p
    · refine ⟨p, List.mem_cons_of_mem _ hp, fun q hq => ?_⟩
      rcases List.mem_cons.1 hq with rfl | hq
      · exact h
      · exact hf q hq
    · refine ⟨x, List.mem_cons_self .., fun q hq => ?_⟩
      rcases List.mem_cons.1 hq with rfl | hq
      · exact Nat.le_refl _
      · have := hf q hq; omega
theorem idx_ne {x p : Int} {l : List Int} (h : x ≠ p) : (x :: l).idxOf p = l.idxOf p + 1 := by
  have e : (x == p) = false := by simpa using h
  rw [List.idxOf_cons, e]; rfl
theorem split_at (l : List Int) (p : Int) (h : p ∈ l) : ∃ a b, l = a ++ p :: b ∧ p ∉ a ∧ l.idxOf p = a.length := by
  induction l with
  | nil => cases h
  | cons x l ih =>
    by_cases e : x = p
    · subst e; exact ⟨[], l, rfl, by simp, by simp⟩
    · have hm : p ∈ l := by
        rcases List.mem_cons.1 h with h | h
        · exact absurd h.symm e
        · exact h
      obtain ⟨a, b, h1, h2, h3⟩ := ih hm
      refine ⟨x :: a, b, by rw [h1]; rfl, fun hp => ?_, ?_⟩
      · rcases List.mem_cons.1 hp with hp | hp
        · exact e hp.symm
        · exact h2 hp
      · rw [idx_ne e, h3]; rfl
theorem idx_in {a b : List Int} {p q : Int} (hq : q ≠ p) (ha : p ∉ a) (h : (a ++ p :: b).idxOf q ≤ a.length) : q ∈ a := by
  induction a with
  | nil =>
    exfalso
    have e : ([] ++ p :: b).idxOf q = b.idxOf q + 1 := by
      show (p :: b).idxOf q = _
      exact idx_ne (fun e => hq e.symm)
    rw [e] at h; simp at h
  | cons x a ih =>
    by_cases e : x = q
    · rw [e]; exact List.mem_cons_self ..
    · refine List.mem_cons_of_mem _ (ih (fun hp => ha (List.mem_cons_of_mem _ hp)) ?_)
      rw [List.cons_append, idx_ne e, List.length_cons] at h
      omega
theorem ceil_add (k m : Nat) (hk : 0 < k) : (k + m + k - 1) / k = 1 + (m + k - 1) / k := by
  have : k + m + k - 1 = (m + k - 1) + k := by omega
  rw [this, Nat.add_div_right _ hk]; omega
theorem ceil_mono {a b k : Nat} (h : a ≤ b) : (a + k - 1) / k ≤ (b + k - 1) / k := Nat.div_le_div_right (by omega)
theorem sim_bound (k : Nat) (hk : 0 < k) (U : List Int) (hU : U.length ≤ k + 1) : ∀ (n : Nat) (l : List Int), l.length ≤ n → (∀ x ∈ l, x ∈ U) → ∀ c : List Int, c.Nodup → (∀ x ∈ c, x ∈ U) → c.length ≤ k →
    ∃ f, Sim k l (· ∈ c) f ∧ f ≤ (k - c.length) + (l.length + k - 1) / k := by
  intro n
  induction n with
  | zero =>
    intro l hl _ c _ _ _
    have : l = [] := List.eq_nil_of_length_eq_zero (by omega)
    subst this
    exact ⟨0, rfl, Nat.zero_le _⟩
  | succ n ih =>
    intro l hl hlU c hn hcU hck
    cases l with
    | nil => exact ⟨0, rfl, Nat.zero_le _⟩
    | cons r l =>
      have hl' : l.length ≤ n := by simpa using hl
      have hlU' : ∀ x ∈ l, x ∈ U := fun x hx => hlU x (List.mem_cons_of_mem _ hx)
      by_cases hr : r ∈ c
      · obtain ⟨f, h1, h2⟩ := ih l hl' hlU' c hn hcU hck
        refine ⟨f, ⟨(· ∈ c), hr, fun _ e => .inl e, fits_list hck, f, h1, .inl ⟨hr, rfl⟩⟩, ?_⟩
        have := ceil_mono (k := k) (show l.length ≤ (r :: l).length by simp)
        omega
      by_cases hlt : c.length < k
      · obtain ⟨f, h1, h2⟩ := ih l hl' hlU' (r :: c) (List.nodup_cons.2 ⟨hr, hn⟩) (fun x hx => by
          rcases List.mem_cons.1 hx with rfl | hx
          · exact hlU _ (List.mem_cons_self ..)
          · exact hcU x hx) (by simp; omega)
        refine ⟨f + 1, ⟨(· ∈ r :: c), List.mem_cons_self .., fun x hx => ?_, fits_list (by simp; omega), f, h1, .inr ⟨hr, rfl⟩⟩, ?_⟩
        · rcases List.mem_cons.1 hx with rfl | hx
          · exact .inr rfl
          · exact .inl hx
        · have := ceil_mono (k := k) (show l.length ≤ (r :: l).length by simp)
          simp only [List.length_cons] at h2 this ⊢
          omega
      -- a full cache
      have hcl : c.length = k := by omega
      obtain ⟨p, hpc, hfar⟩ := far_pick l c (fun e => by rw [e] at hcl; simp at hcl; omega)
      have hrp : r ≠ p := fun e => hr (e ▸ hpc)
      let c' := r :: c.filter (· != p)
      have hfl := filter_len hn hpc
      have hc'l : c'.length = k := by show (r :: c.filter (· != p)).length = k; rw [List.length_cons]; omega
      have hc'n : c'.Nodup := List.nodup_cons.2 ⟨fun h => hr (mem_filt h), hn.filter _⟩
      have hc'U : ∀ x ∈ c', x ∈ U := fun x hx => by
        rcases List.mem_cons.1 hx with rfl | hx
        · exact hlU _ (List.mem_cons_self ..)
        · exact hcU x (mem_filt hx)
      -- all but p are in it
      have hall : ∀ x ∈ U, x ≠ p → x ∈ c' := fun x hx hne => by
        by_cases h : x ∈ c'
        · exact h
        · exfalso
          have h3 : (x :: p :: c').length ≤ U.length := nodup_le (List.nodup_cons.2 ⟨fun h' => by
            rcases List.mem_cons.1 h' with h' | h'
            · exact hne h'
            · exact h h', List.nodup_cons.2 ⟨fun h' => by
              rcases List.mem_cons.1 h' with h' | h'
              · exact hrp h'.symm
              · have := (List.mem_filter.1 h').2; simp at this, hc'n⟩⟩) (fun y hy => by
            rcases List.mem_cons.1 hy with rfl | hy
            · exact hx
            · rcases List.mem_cons.1 hy with rfl | hy
              · exact hcU _ hpc
              · exact hc'U y hy)
          simp only [List.length_cons] at h3
          omega
      have hone : ∀ f, Sim k l (· ∈ c') f → Sim k (r :: l) (· ∈ c) (f + 1) := fun f h => ⟨(· ∈ c'), List.mem_cons_self .., fun x hx => by
        rcases List.mem_cons.1 hx with rfl | hx
        · exact .inr rfl
        · exact .inl (mem_filt hx), fits_list (by omega), f, h, .inr ⟨hr, rfl⟩⟩
      by_cases hpl : p ∈ l
      · obtain ⟨a, b, hab, hpa, hidx⟩ := split_at l p hpl
        have hina : ∀ q ∈ c.filter (· != p), q ∈ a := fun q hq => by
          have hqp : q ≠ p := by have := (List.mem_filter.1 hq).2; simpa using this
          have := hfar q (mem_filt hq)
          rw [hidx, hab] at this
          exact idx_in hqp hpa this
        have hal : k - 1 ≤ a.length := by
          have := nodup_le (hn.filter (· != p)) hina
          omega
        have habl : l.length = a.length + (p :: b).length := by rw [hab, List.length_append]
        obtain ⟨f, h1, h2⟩ := ih (p :: b) (by omega) (fun x hx => hlU' x (by rw [hab]; exact List.mem_append_right _ hx)) c' hc'n hc'U (by omega)
        have h3 : Sim k l (· ∈ c') f := by
          rw [hab]
          exact sim_hits (by omega) h1 a (fun x hx => hall x (hlU' x (by rw [hab]; exact List.mem_append_left _ hx)) (fun e => hpa (e ▸ hx)))
        refine ⟨f + 1, hone f h3, ?_⟩
        have h4 := ceil_mono (k := k) (show k + (p :: b).length ≤ (r :: l).length by have e0 : (r :: l).length = l.length + 1 := rfl; omega)
        rw [ceil_add k _ hk] at h4
        omega
      · have h3 : Sim k l (· ∈ c') 0 := by
          have := sim_hits (k := k) (c := c') (t := []) (f := 0) (by omega) rfl l (fun x hx => hall x (hlU' x hx) (fun e => hpl (e ▸ hx)))
          simpa using this
        refine ⟨1, hone 0 h3, ?_⟩
        have h4 := ceil_mono (k := k) (show 1 ≤ (r :: l).length by simp)
        have h5 : (1 + k - 1) / k = 1 := by rw [show 1 + k - 1 = k by omega]; exact Nat.div_self hk
        omega
end Go.Proofs.Ytodnkkmjjlfoiaa
