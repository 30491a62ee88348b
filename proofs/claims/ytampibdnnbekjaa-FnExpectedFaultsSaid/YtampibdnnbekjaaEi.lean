import Derived.Test.YtampibdnnbekjaaP
/- plain: the seeds behind the end of a code come to a byte 0 -/
namespace Go.Proofs.Ytampibdnnbekjaa

/-- the seed's affine step, its numbers not wrapped -/
def affA (A : Nat) : Nat → Nat
  | 0 => A
  | k + 1 => affA A k * affA A k
def affC (A C : Nat) : Nat → Nat
  | 0 => C
  | k + 1 => affC A C k * (affA A k + 1)
def lcgS (A C x : Nat) : Nat := x * A + C
def lcgIt (A C : Nat) : Nat → Nat → Nat
  | 0, x => x
  | n + 1, x => lcgIt A C n (lcgS A C x)
section
variable {A C M : Nat}
theorem lcgIt_add (a b x : Nat) : lcgIt A C (a + b) x = lcgIt A C b (lcgIt A C a x) := by
  induction a generalizing x with
  | zero => rw [Nat.zero_add]; rfl
  | succ a ih => rw [Nat.succ_add, lcgIt, lcgIt, ih]
theorem lcgIt_pow (k : Nat) : ∀ x, lcgIt A C (2 ^ k) x = x * affA A k + affC A C k := by
  induction k with
  | zero => exact fun x => rfl
  | succ k ih =>
    intro x
    rw [Nat.pow_succ, Nat.mul_two, lcgIt_add, ih, ih, affA, affC, Nat.add_mul, Nat.mul_assoc, Nat.add_assoc, Nat.mul_add, Nat.mul_one]
theorem aff_form (hA : ∃ u, A = 1 + 4 * u) (hC : ∃ v, C = 2 * v + 1) (k : Nat) : ∃ u v, affA A k = 1 + 4 * 2 ^ k * u ∧ affC A C k = 2 ^ k * (2 * v + 1) := by
  induction k with
  | zero =>
    obtain ⟨u, hu⟩ := hA
    obtain ⟨v, hv⟩ := hC
    exact ⟨u, v, by rw [affA, hu, Nat.pow_zero, Nat.mul_one], by rw [affC, hv, Nat.pow_zero, Nat.one_mul]⟩
  | succ k ih =>
    obtain ⟨u, v, h1, h2⟩ := ih
    refine ⟨u + 2 * 2 ^ k * u * u, v + (2 * v + 1) * (2 ^ k * u), ?_, ?_⟩
    · rw [affA, h1, Nat.pow_succ]
      generalize 2 ^ k = p
      simp only [Nat.add_mul, Nat.mul_add, Nat.one_mul, Nat.mul_one]
      have e1 : 4 * (p * 2) * (2 * p * u * u) = 4 * p * u * (4 * p * u) := by
        rw [show 4 * p * u * (4 * p * u) = 4 * (4 * (p * (u * (p * u)))) by simp only [Nat.mul_assoc, Nat.mul_left_comm, Nat.mul_comm]]
        rw [show 4 * (p * 2) * (2 * p * u * u) = 4 * (2 * (2 * (p * (u * (p * u))))) by simp only [Nat.mul_assoc, Nat.mul_left_comm, Nat.mul_comm]]
        omega
      have e2 : 4 * (p * 2) * u = 4 * p * u + 4 * p * u := by
        rw [show 4 * (p * 2) * u = 2 * (4 * p * u) by simp only [Nat.mul_assoc, Nat.mul_left_comm, Nat.mul_comm]]
        omega
      rw [e1, e2]
      omega
    · rw [affC, h1, h2, Nat.pow_succ]
      generalize 2 ^ k = p
      rw [show 1 + 4 * p * u + 1 = 2 * (1 + 2 * (p * u)) by rw [Nat.mul_assoc]; omega]
      rw [show p * (2 * v + 1) * (2 * (1 + 2 * (p * u))) = p * 2 * ((2 * v + 1) * (1 + 2 * (p * u))) by simp only [Nat.mul_assoc, Nat.mul_left_comm, Nat.mul_comm]]
      congr 1
      rw [Nat.mul_add, Nat.mul_one, show (2 * v + 1) * (2 * (p * u)) = 2 * ((2 * v + 1) * (p * u)) by simp only [Nat.mul_assoc, Nat.mul_left_comm, Nat.mul_comm]]
      omega
theorem lcg_flip (hA : ∃ u, A = 1 + 4 * u) (hC : ∃ v, C = 2 * v + 1) (k x : Nat) : ∃ o, lcgIt A C (2 ^ k) x = x + 2 ^ k * (2 * o + 1) := by
  obtain ⟨u, v, h1, h2⟩ := aff_form hA hC k
  refine ⟨2 * (u * x) + v, ?_⟩
  rw [lcgIt_pow, h1, h2]
  generalize 2 ^ k = p
  rw [Nat.mul_add, Nat.mul_one, show x * (4 * p * u) = p * (4 * (u * x)) by simp only [Nat.mul_assoc, Nat.mul_left_comm, Nat.mul_comm], Nat.add_assoc, ← Nat.mul_add]
  congr 2
  omega
theorem lcg_reach (hA : ∃ u, A = 1 + 4 * u) (hC : ∃ v, C = 2 * v + 1) (x : Nat) : ∀ j, j ≤ 8 → ∃ n, n < 2 ^ j ∧ lcgIt A C (n * 2 ^ 40) x / 2 ^ 40 % 2 ^ j = 0 := by
  intro j
  induction j with
  | zero => exact fun _ => ⟨0, by decide, by rw [Nat.pow_zero, Nat.mod_one]⟩
  | succ j ih =>
    intro hj
    obtain ⟨n, hn, hr⟩ := ih (by omega)
    have hd := Nat.mod_mul (x := lcgIt A C (n * 2 ^ 40) x / 2 ^ 40) (a := 2 ^ j) (b := 2)
    rw [← Nat.pow_succ, hr, Nat.zero_add] at hd
    rcases Nat.mod_two_eq_zero_or_one (lcgIt A C (n * 2 ^ 40) x / 2 ^ 40 / 2 ^ j) with h | h
    · exact ⟨n, by rw [Nat.pow_succ]; omega, by rw [hd, h, Nat.mul_zero]⟩
    · refine ⟨n + 2 ^ j, by rw [Nat.pow_succ]; omega, ?_⟩
      obtain ⟨o, ho⟩ := lcg_flip hA hC (j + 40) (lcgIt A C (n * 2 ^ 40) x)
      rw [Nat.add_mul, lcgIt_add, ← Nat.pow_add, ho, Nat.pow_add]
      rw [show 2 ^ j * 2 ^ 40 * (2 * o + 1) = 2 ^ 40 * (2 ^ j * (2 * o + 1)) by simp only [Nat.mul_assoc, Nat.mul_comm]]
      rw [Nat.add_mul_div_left _ _ (by decide)]
      rw [h, Nat.mul_one] at hd
      have e := Nat.div_add_mod (lcgIt A C (n * 2 ^ 40) x / 2 ^ 40) (2 ^ (j + 1))
      rw [hd] at e
      rw [← e]
      rw [show 2 ^ (j + 1) * (lcgIt A C (n * 2 ^ 40) x / 2 ^ 40 / 2 ^ (j + 1)) + 2 ^ j + 2 ^ j * (2 * o + 1) = 2 ^ (j + 1) * (lcgIt A C (n * 2 ^ 40) x / 2 ^ 40 / 2 ^ (j + 1) + (o + 1)) by
        rw [Nat.pow_succ]
        generalize lcgIt A C (n * 2 ^ 40) x / 2 ^ 40 / (2 ^ j * 2) = q
        generalize 2 ^ j = p
        simp only [Nat.mul_add, Nat.mul_one]
        rw [show p * (2 * o) = p * 2 * o by rw [Nat.mul_assoc]]
        omega]
      exact Nat.mul_mod_right _ _
/-- the next seed -/
def lcg (A C M s : Nat) : Nat := lcgS A C s % M
def lcgN (A C M : Nat) : Nat → Nat → Nat
  | 0, s => s
  | n + 1, s => lcgN A C M n (lcg A C M s)
theorem lcgS_mod (y : Nat) : lcgS A C (y % M) % M = lcgS A C y % M := by
  unfold lcgS
  rw [Nat.add_mod, Nat.mul_mod, Nat.mod_mod, ← Nat.mul_mod, ← Nat.add_mod]
theorem lcgIt_mod (n : Nat) : ∀ y z, y % M = z % M → lcgIt A C n y % M = lcgIt A C n z % M := by
  induction n with
  | zero => exact fun y z h => h
  | succ n ih =>
    intro y z h
    rw [lcgIt, lcgIt]
    refine ih _ _ ?_
    rw [← lcgS_mod y, ← lcgS_mod z, h]
theorem lcgN_mod (n : Nat) : ∀ s, lcgN A C M n s % M = lcgIt A C n s % M := by
  induction n with
  | zero => exact fun s => rfl
  | succ n ih =>
    intro s
    rw [lcgN, lcgIt, ih]
    exact lcgIt_mod n _ _ (by rw [lcg, Nat.mod_mod])
theorem lcgN_comm (n : Nat) : ∀ s, lcg A C M (lcgN A C M n s) = lcgN A C M n (lcg A C M s) := by
  induction n with
  | zero => exact fun s => rfl
  | succ n ih => intro s; rw [lcgN, lcgN, ih]
/-- the byte of a seed -/
def byteS (y : Nat) : Nat := y / 1099511627776 % 256
theorem byteS_mod (hM : M = 18446744073709551616) (y : Nat) : byteS (y % M) = byteS y := by
  unfold byteS
  subst hM
  omega
theorem lcg_stops (hA : ∃ u, A = 1 + 4 * u) (hC : ∃ v, C = 2 * v + 1) (hM : M = 18446744073709551616) (s : Nat) : ∃ t, t ≤ 140737488355328 ∧ byteS (lcg A C M (lcgN A C M (2 * t) s)) = 0 := by
  obtain ⟨n, hn, hr⟩ := lcg_reach hA hC (lcg A C M s) 8 (by omega)
  refine ⟨n * 549755813888, by omega, ?_⟩
  rw [lcgN_comm, ← byteS_mod hM, lcgN_mod, byteS_mod hM, show 2 * (n * 549755813888) = n * 2 ^ 40 by omega]
  exact hr
theorem least_of {p : Nat → Prop} : ∀ n, p n → ∃ m, m ≤ n ∧ p m ∧ ∀ i, i < m → ¬ p i := by
  intro n
  induction n using Nat.strongRecOn with
  | _ n ih =>
    intro h
    by_cases hc : ∃ i, i < n ∧ p i
    · obtain ⟨i, hi, hp⟩ := hc
      obtain ⟨m, h1, h2, h3⟩ := ih i hi hp
      exact ⟨m, by omega, h2, h3⟩
    · exact ⟨n, Nat.le_refl _, h, fun i hi hp => hc ⟨i, hi, hp⟩⟩
/-- how many rounds of two draws it may take -/
theorem lcg_rank (hA : ∃ u, A = 1 + 4 * u) (hC : ∃ v, C = 2 * v + 1) (hM : M = 18446744073709551616) : ∃ τ : Nat → Nat, (∀ s, τ s ≤ 140737488355328) ∧ ∀ s, byteS (lcg A C M s) % 24 ≠ 0 → τ (lcg A C M (lcg A C M s)) < τ s := by
  have h : ∀ s, ∃ m, m ≤ 140737488355328 ∧ byteS (lcg A C M (lcgN A C M (2 * m) s)) % 24 = 0 ∧ ∀ i, i < m → ¬ byteS (lcg A C M (lcgN A C M (2 * i) s)) % 24 = 0 := fun s => by
    obtain ⟨t, h1, h2⟩ := lcg_stops hA hC hM s
    obtain ⟨m, h3, h4, h5⟩ := least_of (p := fun i => byteS (lcg A C M (lcgN A C M (2 * i) s)) % 24 = 0) t (by rw [h2])
    exact ⟨m, by omega, h4, h5⟩
  refine ⟨fun s => Classical.choose (h s), fun s => (Classical.choose_spec (h s)).1, fun s hs => ?_⟩
  obtain ⟨_, h2, _⟩ := Classical.choose_spec (h s)
  obtain ⟨_, _, h6⟩ := Classical.choose_spec (h (lcg A C M (lcg A C M s)))
  show Classical.choose (h (lcg A C M (lcg A C M s))) < Classical.choose (h s)
  rcases Nat.eq_zero_or_pos (Classical.choose (h s)) with e | e
  · rw [e] at h2; exact absurd h2 hs
  · obtain ⟨m, hm⟩ : ∃ m, Classical.choose (h s) = m + 1 := ⟨Classical.choose (h s) - 1, by omega⟩
    rw [hm] at h2 ⊢
    rcases Nat.lt_or_ge m (Classical.choose (h (lcg A C M (lcg A C M s)))) with hl | hl
    · exact absurd h2 (h6 m hl)
    · omega
end
end Go.Proofs.Ytampibdnnbekjaa
