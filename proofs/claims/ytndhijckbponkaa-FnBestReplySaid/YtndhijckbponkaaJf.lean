import Derived.Test.YtndhijckbponkaaJe
/- the program's search for the least, which begins with a far number, plain -/
namespace Go.Proofs.Ytndhijckbponkaa

def blI (ok : Nat → Bool) (f : Nat → Int) (far : Int) : Nat → Int × Int
  | 0 => (-1, far)
  | m + 1 => if ok m && decide (f m < (blI ok f far m).2) then ((m : Int), f m) else blI ok f far m
theorem blI_eq {ok : Nat → Bool} {f : Nat → Int} {far : Int} (m : Nat) (hf : ∀ s, s < m → ok s = true → 0 ≤ f s ∧ f s < far) :
    ((∀ s, s < m → ok s = false) ∧ blI ok f far m = (-1, far) ∧ bl ok f m = (0, -1)) ∨ ((∃ s, s < m ∧ ok s = true) ∧ 0 ≤ (bl ok f m).2 ∧ blI ok f far m = (((bl ok f m).1 : Int), (bl ok f m).2)) := by
  induction m with
  | zero => exact .inl ⟨fun s hs => absurd hs (Nat.not_lt_zero s), rfl, rfl⟩
  | succ m ih =>
    have ih := ih (fun s hs hok => hf s (by omega) hok)
    unfold blI bl
    cases hk : ok m
    · simp only [Bool.false_and, Bool.false_eq_true, if_false]
      rcases ih with ⟨h1, h2, h3⟩ | ⟨⟨x, hx, hxo⟩, h2, h3⟩
      · refine .inl ⟨fun s hs => ?_, h2, h3⟩
        by_cases e : s = m
        · subst e; exact hk
        · exact h1 s (by omega)
      · exact .inr ⟨⟨x, by omega, hxo⟩, h2, h3⟩
    · obtain ⟨g1, g2⟩ := hf m (by omega) hk
      simp only [Bool.true_and]
      rcases ih with ⟨h1, h2, h3⟩ | ⟨⟨x, hx, hxo⟩, h2, h3⟩
      · rw [h2, h3]
        simp only
        rw [if_pos (by simpa using g2), if_pos (by simp)]
        exact .inr ⟨⟨m, by omega, hk⟩, g1, rfl⟩
      · rw [h3]
        simp only
        have hn : ¬ (bl ok f m).2 < 0 := by omega
        by_cases hc : f m < (bl ok f m).2
        · rw [if_pos (by simpa using hc), if_pos (by simp [hc])]
          exact .inr ⟨⟨m, by omega, hk⟩, g1, rfl⟩
        · rw [if_neg (by simpa using hc), if_neg (by simp [hc, hn])]
          exact .inr ⟨⟨x, by omega, hxo⟩, h2, rfl⟩
end Go.Proofs.Ytndhijckbponkaa
