import Derived.Lib.IndexMore
import Derived.Lib.ItoaNum
/- the log: bytes, checksums, lines and records: plain -/
namespace Go.Proofs.YtndhijckbponkaaGreatDoor

theorem dec_len : ∀ (n u : Nat), u < 10 ^ (n + 1) → (Lib.decDigits u).length ≤ n + 1
  | 0, u, h => by
    have h' : u < 10 := by simpa using h
    rw [Lib.decDigits, dif_pos h']
    exact Nat.le_refl _
  | n + 1, u, h => by
    by_cases h' : u < 10
    · rw [Lib.decDigits, dif_pos h']
      simp
    · rw [Lib.decDigits, dif_neg h', List.length_append, List.length_singleton]
      have := dec_len n (u / 10) (by rw [Nat.pow_succ] at h; omega)
      omega
end Go.Proofs.YtndhijckbponkaaGreatDoor
