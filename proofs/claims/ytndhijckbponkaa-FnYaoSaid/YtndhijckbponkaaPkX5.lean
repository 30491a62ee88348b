import Derived.Test.YtndhijckbponkaaPkX4
import Derived.Test.YtndhijckbponkaaS
import Derived.Test.YtndhijckbponkaaDat
import Derived.Test.YtndhijckbponkaaFr
import Derived.Test.YtndhijckbponkaaPkX2
import Derived.Test.YtndhijckbponkaaT
import Derived.Test.YtndhijckbponkaaPkX1
/- the program's search for the least, which begins with a far number, plain -/
namespace Go.Proofs.Ytndhijckbponkaa

def blI (ok : Nat → Bool) (f : Nat → Int) (far : Int) : Nat → Int × Int
  | 0 => (-1, far)
  | m + 1 => if ok m && decide (f m < (blI ok f far m).2) then ((m : Int), f m) else blI ok f far m
theorem blI_eq {ok : Nat → Bool} {f : Nat → Int} {far : Int} (m : Nat) (hf : ∀ s, s < m → ok s = true → 0 ≤ f s ∧ f s < far) :
    ((∀ s, s < m → ok s = false) ∧ blI ok f far m = (-1, far) ∧ bl ok f m = (0, -1)) ∨ ((∃ s, s < m ∧ ok s = true) ∧ 0 ≤ (bl ok f m).2 ∧ blI ok f far m = (((bl ok f m).1 : Int), (bl ok f m).2)) := by
  induction m with
  | zero => exact .inl ⟨fun s hs => absurd hs (Nat.not_lt_zero s), rfl, rfl⟩
  | succ m ih =>
    have ih := ih (fun s hs hok => hf s (by omega) hok)
    unfold blI bl
    cases hk : ok m
    · simp only [Bool.false_and, Bool.false_eq_true, if_false]
      rcases ih with ⟨h1, h2, h3⟩ | ⟨⟨x, hx, hxo⟩, h2, h3⟩
      · refine .inl ⟨fun s hs => ?_, h2, h3⟩
        by_cases e : s = m
        · subst e; exact hk
        · exact h1 s (by omega)
      · exact .inr ⟨⟨x, by omega, hxo⟩, h2, h3⟩
    · obtain ⟨g1, g2⟩ := hf m (by omega) hk
      simp only [Bool.true_and]
      rcases ih with ⟨h1, h2, h3⟩ | ⟨⟨x, hx, hxo⟩, h2, h3⟩
      · rw [h2, h3]
        simp only
        rw [if_pos (by simpa using g2), if_pos (by simp)]
        exact .inr ⟨⟨m, by omega, hk⟩, g1, rfl⟩
      · rw [h3]
        simp only
        have hn : ¬ (bl ok f m).2 < 0 := by omega
        by_cases hc : f m < (bl ok f m).2
        · rw [if_pos (by simpa using hc), if_pos (by simp [hc])]
          exact .inr ⟨⟨m, by omega, hk⟩, g1, rfl⟩
        · rw [if_neg (by simpa using hc), if_neg (by simp [hc, hn])]
          exact .inr ⟨⟨x, by omega, hxo⟩, h2, rfl⟩
end Go.Proofs.Ytndhijckbponkaa

/- what the laws' helpers do with a Cache: its size, copy, compare, mark, look whether the mark is held -/
namespace Go.Proofs.Ytndhijckbponkaa
open Go.RowKit

/-- the new lists behind a store to a box of one's own -/
theorem OI.far {base : Nat} {w : World} {v : Value} {l : List Int} (h : OI base w v l) {b : Nat} (hb : b < base) (o : Nat) (x : Value) : OI base (w.setCell ⟨b, o, none⟩ x) v l :=
  h.set b o x (fun hq => by have := (h.lt b hq).1; omega)
end Go.Proofs.Ytndhijckbponkaa

/- lists that are the same; caches that are the same -/
namespace Go.Proofs.Ytndhijckbponkaa
open Go.RowKit

theorem drewN_chg (w : World) (n : Nat) : Chg No w (w.drewN n) := (Chg.refl No w).drewN n
theorem Equal_any (A B : Nat → Prop) (v v' : Value) (l l' : List Int) (w : World) (h : RI A w v l) (h' : RI B w v' l') :
    Calls Try.prog 82 #[v, v'] w (Ret fun r w' => r = .bool (l == l') ∧ Chg No w w') := by
  have hL := h.len
  have hL' := h'.len
  obtain ⟨a, cap, rfl, hcap, hmax, hlen, _, hc⟩ := id h
  obtain ⟨a', cap', rfl, hcap', hmax', hlen', _, hc'⟩ := id h'
  by_cases hll : l.length = l'.length
  · by_cases hl0 : l = []
    · subst hl0
      have hl' : l' = [] := List.eq_nil_of_length_eq_zero (by simpa using hll.symm)
      subst hl'
      refine (Try.slices_Equal_int_empty a a' cap 0 cap' w (by omega)).mono ?_
      rintro e w' ⟨rfl, rfl⟩
      exact ⟨_, rfl, rfl, Chg.refl _ _⟩
    · have hl0' : l' ≠ [] := fun e => hl0 (List.eq_nil_of_length_eq_zero (by rw [hll, e]; rfl))
      obtain ⟨b, off, rfl, _, _, hcell⟩ := hc hl0
      obtain ⟨b', off', rfl, _, _, hcell'⟩ := hc' hl0'
      refine (Try.slices_Equal_int b off l.length cap b' off' l'.length cap' l l' w (Nat.le_refl _) (Nat.le_refl _) (by omega) (by omega) hcell hcell').mono ?_
      rintro e w' ⟨rfl, q, rfl⟩
      exact ⟨_, rfl, by rw [List.take_length, List.take_length], drewN_chg w q⟩
  · refine (Try.slices_Equal_int_lens a a' l.length cap l'.length cap' w hll).mono ?_
    rintro e w' ⟨rfl, rfl⟩
    refine ⟨_, rfl, ?_, Chg.refl _ _⟩
    have : (l == l') = false := by rw [beq_eq_false_iff_ne]; exact fun e => hll (by rw [e])
    rw [this]

end Go.Proofs.Ytndhijckbponkaa
