import Derived.Test.YtampibdnnbekjaaEi
import Derived.Test.YtampibdnnbekjaaEb
import Derived.Test.YtampibdnnbekjaaEc
import Derived.Test.YtampibdnnbekjaaUd
import Derived.Test.YtampibdnnbekjaaFr
/- what DrawExpectedFaults draws -/
namespace Go.Proofs.Ytampibdnnbekjaa
open Go.RowKit

theorem lcg_int (A C M : Nat) (s : Int) (hM : 0 < M) : ((s * (A : Int) % (M : Int) % (M : Int) + (C : Int)) % (M : Int) % (M : Int)).toNat = ((s % (M : Int)).toNat * A + C) % M := by
  obtain ⟨q, hq⟩ := Int.eq_ofNat_of_zero_le (Int.emod_nonneg s (show (M : Int) ≠ 0 by omega))
  have e1 : (s * (A : Int) % (M : Int) % (M : Int) + (C : Int)) % (M : Int) % (M : Int) = (s * (A : Int) + (C : Int)) % (M : Int) := by
    rw [Int.emod_emod, Int.emod_emod, Int.add_emod, Int.emod_emod, ← Int.add_emod]
  have e2 : (s * (A : Int) + (C : Int)) % (M : Int) = (((q * A + C : Nat) % M : Nat) : Int) := by
    have e3 : s = (q : Int) + (M : Int) * (s / (M : Int)) := by rw [← hq, Int.emod_add_mul_ediv]
    rw [e3, Int.add_mul, show (q : Int) * (A : Int) + (M : Int) * (s / (M : Int)) * (A : Int) + (C : Int) = ((q : Int) * (A : Int) + (C : Int)) + (M : Int) * (s / (M : Int) * (A : Int)) by rw [Int.mul_assoc]; omega, Int.add_mul_emod_self_left]
    rfl
  rw [e1, e2, hq]
  rfl
theorem step_lcg (A C M : Nat) (hA : A = 6364136223846793005) (hC : C = 462197) (hM : M = 18446744073709551616) (seed : Int) : (stepS seed % (M : Int)).toNat = lcg A C M (seed % (M : Int)).toNat := by
  have h1 : (M : Int) = 18446744073709551616 := by omega
  have h2 : (A : Int) = 6364136223846793005 := by omega
  have h3 : (C : Int) = 462197 := by omega
  have e := lcg_int A C M seed (by omega)
  unfold lcg lcgS
  rw [← e]
  unfold stepS
  rw [IntKind.wrap_u64, IntKind.wrap_u64, IntKind.wrap_u64, ← h1, ← h2, ← h3]
theorem step_byte (M : Nat) (hM : M = 18446744073709551616) (seed : Int) : byteI (stepS seed) = (byteS (stepS seed % (M : Int)).toNat : Int) := by
  have h : 0 ≤ stepS seed ∧ stepS seed < 18446744073709551616 := by
    unfold stepS
    rw [IntKind.wrap_u64]
    omega
  obtain ⟨E, hE⟩ : ∃ E, stepS seed = E := ⟨_, rfl⟩
  rw [hE] at h ⊢
  obtain ⟨e, he⟩ := Int.eq_ofNat_of_zero_le (a := E / 1099511627776) (by omega)
  have h2 : byteI E = ((e &&& 255 : Nat) : Int) := by
    unfold byteI
    rw [he, show (255 : Int) = ((255 : Nat) : Int) by rfl]
    exact bits_and_u64_nat e 255 (by omega) (by omega)
  have h3 : e &&& 255 = e % 256 := Nat.and_two_pow_sub_one_eq_mod e 8
  rw [h2, h3]
  unfold byteS
  subst hM
  omega
/-- how many rounds of two draws it may take, by the seed -/
theorem seed_rank : ∃ τ : Int → Nat, (∀ s, τ s ≤ 140737488355328) ∧ ∀ s, (byteI (stepS s) % 24 == 0) = false → τ (stepS (stepS s)) < τ s := by
  obtain ⟨A, hA⟩ : ∃ A, A = 6364136223846793005 := ⟨_, rfl⟩
  obtain ⟨C, hC⟩ : ∃ C, C = 462197 := ⟨_, rfl⟩
  obtain ⟨M, hM⟩ : ∃ M, M = 18446744073709551616 := ⟨_, rfl⟩
  obtain ⟨τ, h1, h2⟩ := lcg_rank (A := A) (C := C) (M := M) ⟨1591034055961698251, by omega⟩ ⟨231098, by omega⟩ hM
  refine ⟨fun s => τ (s % (M : Int)).toNat, fun s => h1 _, fun s hs => ?_⟩
  show τ (stepS (stepS s) % (M : Int)).toNat < τ (s % (M : Int)).toNat
  rw [step_lcg A C M hA hC hM, step_lcg A C M hA hC hM]
  refine h2 _ (fun e => ?_)
  rw [← step_lcg A C M hA hC hM] at e
  rw [step_byte M hM, beq_eq_false_iff_ne] at hs
  omega
def rkM (τ : Int → Nat) (P n : Nat) (w : World) (b : Nat) : Nat := (n - (intOf ((w.cell? ⟨b, 1, none⟩).getD (.int .i64 0))).toNat) * P + τ (intOf ((w.cell? ⟨b, 2, none⟩).getD (.int .i64 0)))
theorem rkM_at {τ : Int → Nat} {P n : Nat} {w : World} {b : Nat} {a : Option Addr} {n' cap m : Nat} {seed : Int} (h : CurB w b a n' cap (m : Int) seed) : rkM τ P n w b = (n - m) * P + τ seed := by
  unfold rkM
  rw [h.c1, h.c2]
  rfl
theorem rkM_less {τ : Int → Nat} {P n m : Nat} {s s1 s2 : Int} {r : Bool} (hτ : ∀ s, τ s < P) (hr : ∀ s, (byteI (stepS s) % 24 == 0) = false → τ (stepS (stepS s)) < τ s)
    (h1 : n ≤ m → s1 = stepS s ∧ r = (byteI s1 % 24 == 0)) (h2 : n ≤ m + 1 → s2 = stepS s1) (hf : r = false) : (n - (m + 2)) * P + τ s2 < (n - m) * P + τ s := by
  rcases Nat.lt_or_ge m n with h | h
  · have e : (n - (m + 2) + 1) * P ≤ (n - m) * P := Nat.mul_le_mul_right _ (by omega)
    rw [Nat.add_mul, Nat.one_mul] at e
    have := hτ s2
    omega
  · obtain ⟨e1, e2⟩ := h1 h
    have e3 := h2 (by omega)
    subst e1 e3
    have := hr s (by rw [← e2]; exact hf)
    rw [show n - (m + 2) = 0 by omega, show n - m = 0 by omega]
    omega
/-- where the cursor may stand -/
def Kb (τ : Int → Nat) (n m : Nat) (s : Int) : Prop := m ≤ 1000000 ∨ (n ≤ m ∧ m + 2 * τ s ≤ n + 562949953421312)
theorem Kb.le {τ : Int → Nat} {n m : Nat} {s : Int} (h : Kb τ n m s) (hn : n ≤ 1000000) : m ≤ 562949954421312 := by
  rcases h with h | h <;> omega
theorem Kb.next {τ : Int → Nat} {n m : Nat} {s s1 s2 : Int} {r : Bool} (h : Kb τ n m s) (hn : n ≤ 1000000) (hτ : ∀ s, τ s ≤ 140737488355328) (hr : ∀ s, (byteI (stepS s) % 24 == 0) = false → τ (stepS (stepS s)) < τ s)
    (h1 : n ≤ m → s1 = stepS s ∧ r = (byteI s1 % 24 == 0)) (h2 : n ≤ m + 1 → s2 = stepS s1) (hf : r = false) : Kb τ n (m + 2) s2 := by
  have t2 := hτ s2
  by_cases hm : m + 2 ≤ 1000000
  · exact .inl hm
  · refine .inr ⟨by omega, ?_⟩
    rcases Nat.lt_or_ge m n with h' | h'
    · omega
    · obtain ⟨e1, e2⟩ := h1 h'
      have e3 := h2 (by omega)
      have hlt := hr s (by rw [← e1, ← e2]; exact hf)
      rw [← e1, ← e3] at hlt
      rcases h with h | h
      · have := hτ s
        omega
      · omega
end Go.Proofs.Ytampibdnnbekjaa
