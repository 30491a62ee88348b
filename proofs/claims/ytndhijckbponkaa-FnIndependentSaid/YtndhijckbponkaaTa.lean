import Derived.Test.YtndhijckbponkaaJ
import Derived.Test.YtndhijckbponkaaT
import Derived.Test.YtndhijckbponkaaP
import Derived.Test.YtndhijckbponkaaDat
import Derived.Test.YtndhijckbponkaaShelf
import Derived.Test.YtndhijckbponkaaCd
/- lists that are the same; caches that are the same -/
namespace Go.Proofs.Ytndhijckbponkaa
open Go.RowKit

theorem drewN_chg (w : World) (n : Nat) : Chg No w (w.drewN n) := (Chg.refl No w).drewN n
theorem Equal_any (A B : Nat → Prop) (v v' : Value) (l l' : List Int) (w : World) (h : RI A w v l) (h' : RI B w v' l') :
    Calls Try.prog 82 #[v, v'] w (Ret fun r w' => r = .bool (l == l') ∧ Chg No w w') := by
  have hL := h.len
  have hL' := h'.len
  obtain ⟨a, cap, rfl, hcap, hmax, hlen, _, hc⟩ := id h
  obtain ⟨a', cap', rfl, hcap', hmax', hlen', _, hc'⟩ := id h'
  by_cases hll : l.length = l'.length
  · by_cases hl0 : l = []
    · subst hl0
      have hl' : l' = [] := List.eq_nil_of_length_eq_zero (by simpa using hll.symm)
      subst hl'
      refine (Try.slices_Equal_int_empty a a' cap 0 cap' w (by omega)).mono ?_
      rintro e w' ⟨rfl, rfl⟩
      exact ⟨_, rfl, rfl, Chg.refl _ _⟩
    · have hl0' : l' ≠ [] := fun e => hl0 (List.eq_nil_of_length_eq_zero (by rw [hll, e]; rfl))
      obtain ⟨b, off, rfl, _, _, hcell⟩ := hc hl0
      obtain ⟨b', off', rfl, _, _, hcell'⟩ := hc' hl0'
      refine (Try.slices_Equal_int b off l.length cap b' off' l'.length cap' l l' w (Nat.le_refl _) (Nat.le_refl _) (by omega) (by omega) hcell hcell').mono ?_
      rintro e w' ⟨rfl, q, rfl⟩
      exact ⟨_, rfl, by rw [List.take_length, List.take_length], drewN_chg w q⟩
  · refine (Try.slices_Equal_int_lens a a' l.length cap l'.length cap' w hll).mono ?_
    rintro e w' ⟨rfl, rfl⟩
    refine ⟨_, rfl, ?_, Chg.refl _ _⟩
    have : (l == l') = false := by rw [beq_eq_false_iff_ne]; exact fun e => hll (by rw [e])
    rw [this]

end Go.Proofs.Ytndhijckbponkaa
