import Derived.Test.YtodnkkmjjlfoiaaGreatPkA
import Derived.Test.YtodnkkmjjlfoiaaGreatPk5
import Derived.Test.YtodnkkmjjlfoiaaGreatPk2
import Derived.Test.YtodnkkmjjlfoiaaGreatGo
import Derived.Test.YtodnkkmjjlfoiaaGreatPk4
import Derived.Test.YtodnkkmjjlfoiaaGreatPk3
/- sets of pages as digits; the table of least numbers of faults (plain) -/
namespace Go.Proofs.YtodnkkmjjlfoiaaGreat

/-- how many digits are 1 -/
def szM (s : Nat) : Nat := if h : s = 0 then 0 else s % 2 + szM (s / 2)
termination_by s
decreasing_by omega
theorem szM_zero : szM 0 = 0 := by unfold szM; rfl
theorem szM_pos {s : Nat} (h : s ≠ 0) : szM s = s % 2 + szM (s / 2) := by rw [szM, dif_neg h]
theorem szM_step (s : Nat) : szM s = s % 2 + szM (s / 2) := by
  by_cases h : s = 0
  · subst h; simp [szM_zero]
  · exact szM_pos h
/-- the digits' pages -/
def pgN (n s : Nat) : List Nat := (List.range n).filter (fun x => s.testBit x)
theorem pgN_len (n : Nat) : ∀ s, s < 2 ^ n → (pgN n s).length = szM s := by
  induction n with
  | zero =>
    intro s hs
    have : s = 0 := by simpa using hs
    subst this; simp [pgN, szM_zero]
  | succ n ih =>
    intro s hs
    have h2 : s / 2 < 2 ^ n := by rw [Nat.pow_succ] at hs; omega
    have e := ih (s / 2) h2
    rw [szM_step, ← e]
    unfold pgN
    rw [List.range_succ_eq_map, List.filter_cons, List.filter_map]
    have : ((fun x => s.testBit x) ∘ Nat.succ) = fun x => (s / 2).testBit x := by funext x; simp [Function.comp, Nat.testBit_succ]
    rw [this]
    by_cases hb : s % 2 = 1
    · have : s.testBit 0 = true := by simp [hb]
      simp [hb]
      omega
    · have h0 : s % 2 = 0 := by omega
      have : s.testBit 0 = false := by simp [h0]
      simp [h0]
def pgs (n s : Nat) : List Int := (pgN n s).map Int.ofNat
theorem pgs_len (n s : Nat) (hs : s < 2 ^ n) : (pgs n s).length = szM s := by rw [pgs, List.length_map, pgN_len n s hs]
theorem pgs_mem (n s : Nat) (x : Int) : x ∈ pgs n s ↔ ∃ k : Nat, x = k ∧ k < n ∧ s.testBit k = true := by
  simp only [pgs, pgN, List.mem_map, List.mem_filter, List.mem_range]
  constructor
  · rintro ⟨k, ⟨h1, h2⟩, rfl⟩; exact ⟨k, rfl, h1, h2⟩
  · rintro ⟨k, rfl, h1, h2⟩; exact ⟨k, ⟨h1, h2⟩, rfl⟩
theorem pgs_nodup (n s : Nat) : (pgs n s).Nodup := by
  unfold pgs
  rw [List.Nodup, List.pairwise_map]
  exact (List.nodup_range.filter _).imp (fun h e => h (Int.ofNat.inj e))

theorem sub_bit : ∀ s, s < 256 → ∀ x, x < 8 → s.testBit x = true → s - 2 ^ x < 256 ∧ 2 ^ x ≤ s ∧ ∀ j, j < 8 → (s - 2 ^ x).testBit j = (s.testBit j && !(j == x)) := by decide +kernel
theorem bit_hi {n s j : Nat} (hs : s < 2 ^ n) (hj : n ≤ j) : s.testBit j = false := by
  apply Nat.testBit_lt_two_pow
  exact Nat.lt_of_lt_of_le hs (Nat.pow_le_pow_right (by omega) hj)
theorem pow8 {n : Nat} (hn : n ≤ 8) : 2 ^ n ≤ 256 := Nat.pow_le_pow_right (n := 2) (by omega) hn
theorem sub_bits {n s x : Nat} (hn : n ≤ 8) (hs : s < 2 ^ n) (hx : x < n) (h : s.testBit x = true) : s - 2 ^ x < 2 ^ n ∧ 2 ^ x ≤ s ∧ ∀ j, (s - 2 ^ x).testBit j = (s.testBit j && !(j == x)) := by
  have h8 := pow8 hn
  obtain ⟨_, h2, h3⟩ := sub_bit s (by omega) x (by omega) h
  refine ⟨Nat.lt_of_le_of_lt (Nat.sub_le _ _) hs, h2, fun j => ?_⟩
  by_cases hj : j < 8
  · exact h3 j hj
  · rw [bit_hi (n := 8) (s := s) (by omega) (by omega), bit_hi (n := 8) (s := s - 2 ^ x) (by omega) (by omega)]; rfl
theorem or_bits {n s x : Nat} (hs : s < 2 ^ n) (hx : x < n) : s ||| 2 ^ x < 2 ^ n ∧ ∀ j, (s ||| 2 ^ x).testBit j = (s.testBit j || j == x) := by
  refine ⟨Nat.or_lt_two_pow hs (Nat.pow_lt_pow_right (by omega) hx), fun j => ?_⟩
  rw [Nat.testBit_or, Nat.testBit_two_pow]
  congr 1
  by_cases h : x = j
  · subst h; simp
  · simp [h, Ne.symm h]

/-- the set behind a request -/
def aft (s : Nat) (r : Nat) (out : Int) : Nat := (if 0 ≤ out then s - 2 ^ out.toNat else s) ||| 2 ^ r
/-- what a plan may say -/
def chs (k n s r : Nat) : List Int := if s.testBit r then [-1] else (if szM s < k then [-1] else []) ++ pgs n s
/-- the least number, -1 of none -/
def leastM : List Int → Int → Int
  | [], b => b
  | x :: l, b => leastM l (if b < 0 ∨ x < b then x else b)
def dpM (k n : Nat) : List Nat → Nat → Int
  | [], _ => 0
  | r :: l, s => if szM s ≤ k then leastM ((chs k n s r).map fun o => dpM k n l (aft s r o) + (if s.testBit r then 0 else 1)) (-1) else -1

theorem leastM_spec (l : List Int) : ∀ b : Int, (∀ x ∈ l, 0 ≤ x) → (0 ≤ b → leastM l b ≤ b) ∧ (∀ x ∈ l, leastM l b ≤ x) ∧ (0 ≤ b ∨ l ≠ [] → 0 ≤ leastM l b ∧ (leastM l b = b ∨ leastM l b ∈ l)) := by
  induction l with
  | nil => intro b _; exact ⟨fun _ => Int.le_refl _, by simp, fun h => by rcases h with h | h; exact ⟨h, .inl rfl⟩; exact absurd rfl h⟩
  | cons x l ih =>
    intro b hl
    have hx := hl x (List.mem_cons_self ..)
    have ih' := ih (if b < 0 ∨ x < b then x else b) (fun y hy => hl y (List.mem_cons_of_mem _ hy))
    obtain ⟨h1, h2, h3⟩ := ih'
    have hnb : 0 ≤ (if b < 0 ∨ x < b then x else b) := by split <;> omega
    have g1 := h1 hnb
    obtain ⟨g2, g3⟩ := h3 (.inl hnb)
    have e : leastM (x :: l) b = leastM l (if b < 0 ∨ x < b then x else b) := rfl
    rw [e]
    refine ⟨fun hb => ?_, fun y hy => ?_, fun _ => ⟨g2, ?_⟩⟩
    · split at g1 <;> omega
    · rcases List.mem_cons.1 hy with rfl | hy
      · split at g1 <;> omega
      · exact h2 y hy
    · rcases g3 with g3 | g3
      · rw [g3]
        split
        · exact .inr (List.mem_cons_self ..)
        · exact .inl rfl
      · exact .inr (List.mem_cons_of_mem _ g3)

/-- the set of digits as pages -/
def bitsP (s : Nat) : Int → Prop := fun x => ∃ k : Nat, x = k ∧ s.testBit k = true
theorem bits_pgs {n s : Nat} (hs : s < 2 ^ n) (x : Int) : bitsP s x ↔ x ∈ pgs n s := by
  rw [pgs_mem]
  constructor
  · rintro ⟨k, rfl, h⟩
    refine ⟨k, rfl, ?_, h⟩
    refine Classical.byContradiction fun e => ?_
    rw [bit_hi hs (by omega)] at h; cases h
  · rintro ⟨k, rfl, _, h⟩; exact ⟨k, rfl, h⟩
theorem bitsP_nat (s r : Nat) : bitsP s (r : Int) ↔ s.testBit r = true := by
  constructor
  · rintro ⟨k, h, h'⟩; have : k = r := by omega
    rw [← this]; exact h'
  · intro h; exact ⟨r, rfl, h⟩

theorem chs_no {k n s r : Nat} (hr : s.testBit r = false) (o : Int) : o ∈ chs k n s r ↔ (o = -1 ∧ szM s < k) ∨ o ∈ pgs n s := by
  unfold chs
  rw [hr]
  by_cases h : szM s < k <;> simp [h]
theorem szM_miss {n s r : Nat} (hs : s < 2 ^ n) (hr : r < n) (h : s.testBit r = false) : szM (s ||| 2 ^ r) ≤ szM s + 1 := by
  obtain ⟨h1, h2⟩ := or_bits hs hr
  rw [← pgs_len n _ h1, ← pgs_len n s hs]
  have := nodup_le (l := pgs n (s ||| 2 ^ r)) (m := (r : Int) :: pgs n s) (pgs_nodup _ _) (fun x hx => by
    rw [pgs_mem] at hx
    obtain ⟨k, rfl, hk, hb⟩ := hx
    rw [h2] at hb
    simp only [Bool.or_eq_true, beq_iff_eq] at hb
    rcases hb with hb | hb
    · exact List.mem_cons_of_mem _ ((pgs_mem _ _ _).2 ⟨k, rfl, hk, hb⟩)
    · subst hb; exact List.mem_cons_self ..)
  simpa using this
theorem szM_less {n s x : Nat} (hn : n ≤ 8) (hs : s < 2 ^ n) (hx : x < n) (h : s.testBit x = true) : szM (s - 2 ^ x) + 1 ≤ szM s := by
  obtain ⟨h1, _, h2⟩ := sub_bits hn hs hx h
  rw [← pgs_len n _ h1, ← pgs_len n s hs]
  have := nodup_le (l := (x : Int) :: pgs n (s - 2 ^ x)) (m := pgs n s) (List.nodup_cons.2 ⟨fun e => by
    rw [pgs_mem] at e
    obtain ⟨k, hk, _, hb⟩ := e
    have : k = x := by omega
    subst this
    rw [h2] at hb
    simp at hb, pgs_nodup _ _⟩) (fun y hy => by
    rcases List.mem_cons.1 hy with rfl | hy
    · exact (pgs_mem _ _ _).2 ⟨x, rfl, hx, h⟩
    · rw [pgs_mem] at hy ⊢
      obtain ⟨k, rfl, hk, hb⟩ := hy
      rw [h2] at hb
      simp only [Bool.and_eq_true] at hb
      exact ⟨k, rfl, hk, hb.1⟩)
  simpa using this
theorem testBit_nat (s r : Nat) : s.testBit r = true ∨ s.testBit r = false := by cases s.testBit r <;> simp

theorem aft_hit {n s r : Nat} (hs : s < 2 ^ n) (hr : r < n) (hb : s.testBit r = true) : aft s r (-1) = s := by
  unfold aft
  rw [if_neg (by omega)]
  apply Nat.eq_of_testBit_eq
  intro j
  rw [(or_bits hs hr).2]
  by_cases hj : j = r
  · subst hj; simp [hb]
  · simp [hj]
theorem aft_miss {k n s r : Nat} (hn : n ≤ 8) (hs : s < 2 ^ n) (hsz : szM s ≤ k) (hr : r < n) (hb : s.testBit r = false) (o : Int) (ho : o ∈ chs k n s r) :
    aft s r o < 2 ^ n ∧ szM (aft s r o) ≤ k ∧ ∀ x, bitsP (aft s r o) x ↔ ((bitsP s x ∧ x ≠ o) ∨ x = r) := by
  have hbf : ¬ (s.testBit r = true) := by rw [hb]; simp
  rw [chs_no hb] at ho
  rcases ho with ⟨rfl, hlt⟩ | ho
  · have h2 := szM_miss hs hr hb
    obtain ⟨g1, g2⟩ := or_bits hs hr
    have ha : aft s r (-1) = s ||| 2 ^ r := by unfold aft; rw [if_neg (by omega)]
    rw [ha]
    refine ⟨g1, by omega, fun x => ?_⟩
    constructor
    · rintro ⟨j, rfl, hj⟩
      rw [g2] at hj
      simp only [Bool.or_eq_true, beq_iff_eq] at hj
      rcases hj with hj | hj
      · exact .inl ⟨⟨j, rfl, hj⟩, by omega⟩
      · exact .inr (by rw [hj])
    · rintro (⟨⟨j, rfl, hj⟩, _⟩ | rfl)
      · exact ⟨j, rfl, by rw [g2, hj]; rfl⟩
      · exact ⟨r, rfl, by rw [g2]; simp⟩
  · rw [pgs_mem] at ho
    obtain ⟨y, rfl, hy, hyb⟩ := ho
    obtain ⟨f1, f2, f3⟩ := sub_bits hn hs hy hyb
    obtain ⟨g1, g2⟩ := or_bits f1 hr
    have ha : aft s r (y : Int) = (s - 2 ^ y) ||| 2 ^ r := by unfold aft; rw [if_pos (by omega)]; simp
    rw [ha]
    have hyr : y ≠ r := fun e => hbf (e ▸ hyb)
    have h0 : (s - 2 ^ y).testBit r = false := by rw [f3, hb]; rfl
    have h2 := szM_miss f1 hr h0
    have h3 := szM_less hn hs hy hyb
    refine ⟨g1, by omega, fun x => ?_⟩
    constructor
    · rintro ⟨j, rfl, hj⟩
      rw [g2, f3] at hj
      simp only [Bool.or_eq_true, Bool.and_eq_true, Bool.not_eq_true', beq_eq_false_iff_ne, beq_iff_eq] at hj
      rcases hj with hj | hj
      · exact .inl ⟨⟨j, rfl, hj.1⟩, by have := hj.2; omega⟩
      · exact .inr (by rw [hj])
    · rintro (⟨⟨j, rfl, hj⟩, hne⟩ | rfl)
      · refine ⟨j, rfl, ?_⟩
        have : j ≠ y := by omega
        rw [g2, f3, hj]; simp [this]
      · exact ⟨r, rfl, by rw [g2]; simp⟩
theorem chs_range {k n s r : Nat} {o : Int} (ho : o ∈ chs k n s r) : -1 ≤ o ∧ (0 ≤ o → o < n ∧ s.testBit o.toNat = true) := by
  unfold chs at ho
  split at ho
  · have : o = -1 := by simpa using ho
    exact ⟨by omega, fun h => by omega⟩
  · rcases List.mem_append.1 ho with ho | ho
    · split at ho
      · have : o = -1 := by simpa using ho
        exact ⟨by omega, fun h => by omega⟩
      · cases ho
    · rw [pgs_mem] at ho
      obtain ⟨y, rfl, hy, hb⟩ := ho
      exact ⟨by omega, fun _ => ⟨by omega, by simpa using hb⟩⟩
theorem aft_ok {k n s r : Nat} (hn : n ≤ 8) (hs : s < 2 ^ n) (hsz : szM s ≤ k) (hr : r < n) {o : Int} (ho : o ∈ chs k n s r) : aft s r o < 2 ^ n ∧ szM (aft s r o) ≤ k := by
  rcases testBit_nat s r with hb | hb
  · have : o = -1 := by unfold chs at ho; rw [hb] at ho; simpa using ho
    subst this
    rw [aft_hit hs hr hb]; exact ⟨hs, hsz⟩
  · have := aft_miss hn hs hsz hr hb o ho
    exact ⟨this.1, this.2.1⟩
theorem leastM_snoc (l : List Int) (x : Int) : ∀ b : Int, leastM (l ++ [x]) b = if leastM l b < 0 ∨ x < leastM l b then x else leastM l b := by
  induction l with
  | nil => intro b; rfl
  | cons y l ih => intro b; exact ih _

/-- the table's number is the least one -/
theorem dpM_spec {k n : Nat} (hk : 0 < k) (hn : n ≤ 8) (l : List Nat) : ∀ s, (∀ x ∈ l, x < n) → s < 2 ^ n → szM s ≤ k →
    0 ≤ dpM k n l s ∧ dpM k n l s ≤ l.length ∧ Sim k (l.map Int.ofNat) (bitsP s) (dpM k n l s).toNat ∧ ∀ c, Sim k (l.map Int.ofNat) (bitsP s) c → dpM k n l s ≤ c := by
  induction l with
  | nil => intro s _ _ _; exact ⟨by simp [dpM], by simp [dpM], by simp [dpM, Sim], fun c h => by simp [dpM]⟩
  | cons r l ih =>
    intro s hl hs hsz
    have hr : r < n := hl r (List.mem_cons_self ..)
    have hl' : ∀ x ∈ l, x < n := fun x hx => hl x (List.mem_cons_of_mem _ hx)
    have e : dpM k n (r :: l) s = leastM ((chs k n s r).map fun o => dpM k n l (aft s r o) + (if s.testBit r then 0 else 1)) (-1) := by rw [dpM, if_pos hsz]
    rcases testBit_nat s r with hb | hb
    · -- a hit
      have ha := aft_hit hs hr hb
      have e2 : dpM k n (r :: l) s = dpM k n l s := by
        rw [e]; unfold chs; rw [hb]
        simp [leastM, ha]
      obtain ⟨h0, h1, h2, h3⟩ := ih s hl' hs hsz
      rw [e2]
      refine ⟨h0, by simp only [List.length_cons]; omega, ?_, ?_⟩
      · refine ⟨bitsP s, (bitsP_nat s r).2 hb, fun x hx => .inl hx, ⟨pgs n s, by rw [pgs_len n s hs]; exact hsz, fun x hx => (bits_pgs hs x).1 hx⟩, _, h2, .inl ⟨(bitsP_nat s r).2 hb, rfl⟩⟩
      · rintro c ⟨S1, s1, s2, s3, c1, s4, s5⟩
        obtain ⟨c', g1, g2⟩ := sim_mono (S' := bitsP s) (fun x hx => (s2 x hx).elim id (fun e => by rw [e]; exact (bitsP_nat s r).2 hb)) s4
        have := h3 c' g2
        rcases s5 with ⟨_, e⟩ | ⟨e, _⟩
        · omega
        · exact absurd ((bitsP_nat s r).2 hb) e
    · -- a fault
      have hbf : ¬ (s.testBit r = true) := by rw [hb]; simp
      have hnr : ¬ bitsP s (r : Int) := fun h => hbf ((bitsP_nat s r).1 h)
      have hsub := aft_miss (k := k) hn hs hsz hr hb
      have hval : ∀ o ∈ chs k n s r, 0 ≤ dpM k n l (aft s r o) ∧ dpM k n l (aft s r o) ≤ l.length ∧ Sim k (l.map Int.ofNat) (bitsP (aft s r o)) (dpM k n l (aft s r o)).toNat ∧ ∀ c, Sim k (l.map Int.ofNat) (bitsP (aft s r o)) c → dpM k n l (aft s r o) ≤ c :=
        fun o ho => ih _ hl' (hsub o ho).1 (hsub o ho).2.1
      have hne : chs k n s r ≠ [] := fun e => by
        have hm : ∀ o, ¬ o ∈ chs k n s r := by rw [e]; simp
        by_cases hlt : szM s < k
        · exact hm (-1) ((chs_no hb _).2 (.inl ⟨rfl, hlt⟩))
        · have : 0 < (pgs n s).length := by rw [pgs_len n s hs]; omega
          obtain ⟨y, hy⟩ := List.exists_mem_of_length_pos this
          exact hm y ((chs_no hb _).2 (.inr hy))
      obtain ⟨_, m2, m3⟩ := leastM_spec ((chs k n s r).map fun o => dpM k n l (aft s r o) + 1) (-1) (fun x hx => by
        rw [List.mem_map] at hx
        obtain ⟨o, ho, rfl⟩ := hx
        have := (hval o ho).1
        omega)
      obtain ⟨m4, m5⟩ := m3 (.inr (by simpa using hne))
      have e3 : dpM k n (r :: l) s = leastM ((chs k n s r).map fun o => dpM k n l (aft s r o) + 1) (-1) := by rw [e]; simp [hb]
      rw [e3]
      have hin : leastM ((chs k n s r).map fun o => dpM k n l (aft s r o) + 1) (-1) ∈ (chs k n s r).map fun o => dpM k n l (aft s r o) + 1 := by
        rcases m5 with m5 | m5
        · rw [m5] at m4; omega
        · exact m5
      rw [List.mem_map] at hin
      obtain ⟨o, ho, heq⟩ := hin
      rw [← heq] at m2 ⊢
      obtain ⟨v0, v1, v2, v3⟩ := hval o ho
      obtain ⟨u1, u2, u3⟩ := hsub o ho
      refine ⟨by omega, by simp only [List.length_cons]; omega, ?_, ?_⟩
      · refine ⟨bitsP (aft s r o), (u3 _).2 (.inr rfl), fun x hx => ((u3 x).1 hx).imp (fun h => h.1) id, ⟨pgs n (aft s r o), by rw [pgs_len n _ u1]; exact u2, fun x hx => (bits_pgs u1 x).1 hx⟩, _, v2, .inr ⟨hnr, by omega⟩⟩
      · rintro c ⟨S1, s1, s2, s3, c1, s4, s5⟩
        have key : ∃ o' ∈ chs k n s r, ∀ x, S1 x → bitsP (aft s r o') x := by
          by_cases hlt : szM s < k
          · have hm : (-1 : Int) ∈ chs k n s r := (chs_no hb _).2 (.inl ⟨rfl, hlt⟩)
            refine ⟨-1, hm, fun x hx => ((hsub _ hm).2.2 x).2 ?_⟩
            rcases s2 x hx with h | h
            · exact .inl ⟨h, by obtain ⟨j, rfl, _⟩ := h; omega⟩
            · exact .inr h
          · obtain ⟨q, hq, hnq⟩ := fits_miss (cache := pgs n s) (r := (r : Int)) (pgs_nodup n s) (fun h => hnr ((bits_pgs hs _).2 h)) (by rw [pgs_len n s hs]; omega) s1 s3
            have hm : q ∈ chs k n s r := (chs_no hb _).2 (.inr hq)
            refine ⟨q, hm, fun x hx => ((hsub _ hm).2.2 x).2 ?_⟩
            rcases s2 x hx with h | h
            · exact .inl ⟨h, fun e => hnq (e ▸ hx)⟩
            · exact .inr h
        obtain ⟨o', ho', hS⟩ := key
        obtain ⟨c', g1, g2⟩ := sim_mono hS s4
        have h1 := (hval o' ho').2.2.2 c' g2
        have h2 := m2 _ (List.mem_map.2 ⟨o', ho', rfl⟩)
        rcases s5 with ⟨e, _⟩ | ⟨_, e⟩
        · exact absurd e hnr
        · omega

/-- the table's first number is that of the farthest next use -/
theorem dpM_fewest {k n : Nat} (hk : 0 < k) (hn : n ≤ 8) (l : List Nat) (hl : ∀ x ∈ l, x < n) : 0 ≤ dpM k n l 0 ∧ Fewest k (l.map Int.ofNat) (dpM k n l 0).toNat := by
  have e : bitsP 0 = (fun _ : Int => False) := by funext x; simp [bitsP]
  obtain ⟨h0, _, h1, h2⟩ := dpM_spec hk hn l 0 hl (Nat.two_pow_pos n) (by rw [szM_zero]; omega)
  unfold Fewest
  rw [← e]
  exact ⟨h0, h1, fun c hc => by have := h2 c hc; omega⟩
end Go.Proofs.YtodnkkmjjlfoiaaGreat

/- the reference's table of least numbers of faults: its parts -/
namespace Go.Proofs.YtodnkkmjjlfoiaaGreat
open Go.RowKit

theorem in_bits : ∀ s : Nat, s < 256 → ∀ x : Nat, x < 8 → (bits BinOp.and IntKind.i64 ((s : Int) / 2 ^ x) 1 == 1) = s.testBit x := by decide +kernel
theorem or_bits2 : ∀ s : Nat, s < 256 → ∀ x : Nat, x < 8 → bits BinOp.or IntKind.i64 (s : Int) (wrap64 (2 ^ x)) = ((s ||| 2 ^ x : Nat) : Int) := by decide +kernel
theorem pow_wrap : ∀ x : Nat, x < 9 → wrap64 (2 ^ x) = ((2 ^ x : Nat) : Int) := by decide +kernel
theorem szM_le : ∀ s : Nat, szM s ≤ s := by
  intro s
  induction s using Nat.strongRecOn with
  | ind s ih =>
    by_cases h : s = 0
    · subst h; rw [szM_zero]; exact Nat.le_refl _
    · rw [szM_pos h]
      have := ih (s / 2) (by omega)
      omega
set_option maxRecDepth 100000 in
set_option maxHeartbeats 1000000 in
theorem l5Size_any (s : Nat) (hs : s < 256) (w : World) :
    Calls Tryz.prog 166 #[.int .i64 (s : Int)] w fun e w' => e = .returned (.int .i64 (szM s : Int)) ∧ w = w' := by
  have hsl := szM_le s
  go_enter Tryz.func166, Tryz.ntmps166
  go_wp2_with fail
  go_loop [0, 3] (fun x y => ∃ t c : Nat, x = .int .i64 (t : Int) ∧ y = .int .i64 (c : Int) ∧ Hid (c + szM t = szM s) ∧ t ≤ s) (fun x _ => (intOf x).toNat)
  case atStart => exact ⟨s, 0, rfl, rfl, Lib.hid (by omega), Nat.le_refl _⟩
  case round =>
    obtain ⟨t, c, rfl, rfl, HC, hts⟩ := hrel
    by_cases ht : 0 < t
    · have hstep := szM_pos (s := t) (by omega)
      have h1 : (t : Int).tmod 2 = ((t % 2 : Nat) : Int) := by rw [Int.tmod_eq_emod_of_nonneg (by omega)]; omega
      have h2 : (t : Int).tdiv 2 = ((t / 2 : Nat) : Int) := by rw [Int.tdiv_eq_ediv_of_nonneg (by omega)]; omega
      have HS := Lib.hid hstep
      have hcs : c ≤ 256 := by have := HC.out; omega
      have hw : IntKind.i64.wrap ((c : Int) + ((t % 2 : Nat) : Int)) = (c : Int) + ((t % 2 : Nat) : Int) := IntWalk.i64_in _ (by omega)
      clear hstep
      go_wp2_with fail
      go_round
      case rel => exact ⟨t / 2, c + t % 2, by go_num, by go_num, Lib.hid (by have := HC.out; have := HS.out; omega), by omega⟩
      case measure => simp [intOf]; omega
    · have h0 : t = 0 := by omega
      subst h0
      have he : c = szM s := by have := HC.out; rw [szM_zero] at this; omega
      subst he
      go_wp2_with fail
      go_ret
      exact ⟨rfl, rfl⟩

set_option maxRecDepth 100000 in
set_option maxHeartbeats 1000000 in
theorem l5In_any (s x : Nat) (hs : s < 256) (hx : x < 8) (w : World) :
    Calls Tryz.prog 168 #[.int .i64 (s : Int), .int .i64 (x : Int)] w fun e w' => e = .returned (.bool (s.testBit x)) ∧ w = w' := by
  have H := Lib.hid (in_bits s hs x hx)
  go_enter Tryz.func168, Tryz.ntmps168
  go_wp2_with fail
  go_ret
  exact ⟨ret_bool H.out, rfl⟩
set_option maxRecDepth 100000 in
set_option maxHeartbeats 1000000 in
theorem l5After_any (s x : Nat) (o : Int) (hs : s < 256) (hx : x < 8) (w : World) (ho : -1 ≤ o) (hm : 0 ≤ o → o < 8 ∧ s.testBit o.toNat = true) :
    Calls Tryz.prog 167 #[.int .i64 (s : Int), .int .i64 (x : Int), .int .i64 o] w fun e w' => e = .returned (.int .i64 (aft s x o : Int)) ∧ w = w' := by
  by_cases h0 : 0 ≤ o
  · obtain ⟨h8, hb⟩ := hm h0
    obtain ⟨k, rfl⟩ := Int.eq_ofNat_of_zero_le h0
    simp only [Int.toNat_natCast] at hb
    obtain ⟨g1, g2, _⟩ := sub_bits (n := 8) (by omega) (s := s) (by omega) (x := k) (by omega) hb
    have e1 := pow_wrap k (by omega)
    have e2 : wrap64 ((s : Int) - ((2 ^ k : Nat) : Int)) = ((s - 2 ^ k : Nat) : Int) := by
      have : (s : Int) - ((2 ^ k : Nat) : Int) = ((s - 2 ^ k : Nat) : Int) := by omega
      rw [this]
      have hlt : s - 2 ^ k < 256 := by omega
      generalize s - 2 ^ k = q at hlt ⊢
      unfold wrap64
      omega
    have e3 := or_bits2 (s - 2 ^ k) (by omega) x hx
    have H : Hid (bits BinOp.or IntKind.i64 (wrap64 ((s : Int) - wrap64 (2 ^ k))) (wrap64 (2 ^ x)) = (aft s x (k : Int) : Int)) := Lib.hid (by
      rw [e1, e2, e3]; unfold aft; rw [if_pos h0]; simp)
    clear e1 e2 e3 g1 g2 hm hb
    go_enter Tryz.func167, Tryz.ntmps167
    go_wp2_with fail
    go_ret
    exact ⟨ret_int (by simpa using H.out), rfl⟩
  · have e3 := or_bits2 s hs x hx
    have H : Hid (bits BinOp.or IntKind.i64 (s : Int) (wrap64 (2 ^ x)) = (aft s x o : Int)) := Lib.hid (by
      rw [e3]; unfold aft; rw [if_neg h0])
    have h1 : o < 0 := by omega
    clear e3 hm
    go_enter Tryz.func167, Tryz.ntmps167
    go_wp2_with fail
    go_ret
    exact ⟨ret_int H.out, rfl⟩

theorem pgN_succ (j s : Nat) : pgs (j + 1) s = if s.testBit j then pgs j s ++ [(j : Int)] else pgs j s := by
  unfold pgs pgN
  rw [List.range_succ, List.filter_append, List.map_append]
  cases h : s.testBit j <;> simp [h]
theorem pgs_le (j s : Nat) : (pgs j s).length ≤ j := by
  unfold pgs pgN
  rw [List.length_map]
  have := List.length_filter_le (fun x => s.testBit x) (List.range j)
  rwa [List.length_range] at this
set_option maxRecDepth 100000 in
set_option maxHeartbeats 1000000 in
theorem l5Choices_any (K n s r : Nat) (_hK : K ≤ 6) (hn : n ≤ 8) (hs : s < 256) (hr : r < 8) (w : World) :
    Calls Tryz.prog 165 #[.int .i64 (K : Int), .int .i64 (n : Int), .int .i64 (s : Int), .int .i64 (r : Int)] w (Ret fun v w' => OI w.heap.size w' v (chs K n s r) ∧ Chg No w w') := by
  cases hb : s.testBit r
  · have HC : Hid (chs K n s r = (if szM s < K then [-1] else []) ++ pgs n s) := Lib.hid (by unfold chs; rw [hb]; rfl)
    have HB := Lib.hid hb
    clear hb
    have o1 : OI w.heap.size (w.alloc (.cells #[] 3)) (.slice (some ⟨w.heap.size, 0, none⟩) 0 0) [] := OI.zero (Nat.le_refl _)
    have k1 := (Chg.refl No w).alloc (.cells #[] 3)
    obtain ⟨fs, hfs⟩ : ∃ fs : List Int, (if szM s < K then [-1] else []) = fs := ⟨_, rfl⟩
    have hfl : fs.length ≤ 1 := by rw [← hfs]; split <;> simp
    have HF := Lib.hid hfs
    clear hfs
    rw [HF.out] at HC
    obtain ⟨W, hW⟩ : ∃ W, w.alloc (.cells #[] 3) = W := ⟨_, rfl⟩
    have hsW : w.heap.size ≤ W.heap.size := by rw [← hW]; simp
    by_cases hlt : szM s < K
    · have hfe : fs = [-1] := by rw [← HF.out, if_pos hlt]
      have HFE := Lib.hid hfe
      clear hfe
      go_enter Tryz.func165, Tryz.ntmps165
      go_wp2_with (go_at_call 168; refine (l5In_any s r hs hr _).mono ?_; rintro e w' ⟨rfl, hww⟩; subst hww; rw [HB.out])
      rw [hW] at o1 k1
      clear hW
      refine (l5Size_any s hs _).mono ?_
      rintro e w' ⟨rfl, rfl⟩
      go_wp2_with (at_builtin; refine wapp1 rfl (.tmp 20) (.tmp 21) rfl o1 rfl rfl (by simp) hsW ?_)
      intro v2 w2 o2 k2 f2
      have ch2 := k1.step k2 (fun q hq hl => by have := (o1.lt q hq).1; omega)
      rw [← HFE.out] at o2
      clear k2 o1 k1 HFE f2
      obtain ⟨a2, c2, rfl, _⟩ := id o2.view
      go_wp2_with fail
      go_loopw [9, 10] (fun o z wr => ∃ j : Nat, j ≤ n ∧ z = .int .i64 (j : Int) ∧ OI w.heap.size wr o (fs ++ pgs j s) ∧ Chg No w wr) (fun _ z _ => n - (intOf z).toNat)
      case atStart => exact ⟨0, Nat.zero_le _, rfl, by simpa [pgs, pgN] using o2, ch2⟩
      case round =>
        clear o2 ch2
        obtain ⟨j, hj, rfl, oj, chj⟩ := hrel
        have hszj := chj.size
        obtain ⟨oa, oc, rfl, _⟩ := id oj.view
        by_cases hjn : j < n
        · have hsuc := pgN_succ j s
          have hpl := pgs_le j s
          obtain ⟨ps, hps⟩ : ∃ ps, pgs j s = ps := ⟨_, rfl⟩
          rw [hps] at hsuc oj hpl ⊢
          have hj0 : (0 : Int) ≤ (j : Int) := Int.natCast_nonneg _
          have hj1 : (j : Int) < (n : Int) := by omega
          have hw1 : IntKind.i64.wrap ((j : Int) + 1) = (j : Int) + 1 := IntWalk.i64_in _ (by omega)
          obtain ⟨qs, hqs⟩ : ∃ qs, fs ++ ps = qs := ⟨_, rfl⟩
          have hql : qs.length < 17592186044416 := by rw [← hqs, List.length_append]; omega
          rw [hqs] at oj ⊢
          cases hbj : s.testBit j
          · have HS : Hid (fs ++ pgs (j + 1) s = qs) := Lib.hid (by rw [hsuc, hbj]; exact hqs)
            have HBJ := Lib.hid hbj
            clear hsuc hbj hps hqs
            go_wp2_with (go_at_call 168; refine (l5In_any s j hs (by omega) _).mono ?_; rintro e w' ⟨rfl, hww⟩; subst hww; rw [HBJ.out])
            go_round
            case rel => exact ⟨j + 1, by omega, by go_num, by rw [HS.out]; exact oj, chj⟩
            case measure => simp [intOf]; omega
          · have HS : Hid (fs ++ pgs (j + 1) s = qs ++ [(j : Int)]) := Lib.hid (by rw [hsuc, hbj, ← hqs]; simp)
            have HBJ := Lib.hid hbj
            clear hsuc hbj hps hqs
            go_wp2_with (first
              | (go_at_call 168; refine (l5In_any s j hs (by omega) _).mono ?_; rintro e w' ⟨rfl, hww⟩; subst hww; rw [HBJ.out])
              | (at_builtin; refine wapp1 rfl (.tmp 31) (.tmp 33) rfl oj rfl rfl hql hszj ?_))
            intro v3 w3 o3 k3 f3
            rw [← HS.out] at o3
            have ch3 := chj.step k3 (fun q hq hl => by have := (oj.lt q hq).1; omega)
            obtain ⟨a3, c3, rfl, _⟩ := id o3.view
            go_wp2_with fail
            go_round
            case rel => exact ⟨j + 1, by omega, by go_num, o3, ch3⟩
            case measure => simp [intOf]; omega
        · have hjl : j = n := by omega
          subst hjl
          go_wp2_with fail
          go_ret
          exact ⟨_, rfl, by rw [HC.out]; exact oj, chj⟩
    · have hfe : fs = [] := by rw [← HF.out, if_neg hlt]
      subst hfe
      go_enter Tryz.func165, Tryz.ntmps165
      go_wp2_with (go_at_call 168; refine (l5In_any s r hs hr _).mono ?_; rintro e w' ⟨rfl, hww⟩; subst hww; rw [HB.out])
      rw [hW] at o1 k1
      clear hW
      refine (l5Size_any s hs _).mono ?_
      rintro e w' ⟨rfl, rfl⟩
      go_wp2_with fail
      obtain ⟨fs, hfs⟩ : ∃ fs : List Int, [] = fs := ⟨_, rfl⟩
      rw [hfs] at o1 HC hfl
      obtain ⟨o2, ch2⟩ := (⟨o1, k1⟩ : _ ∧ _)
      clear hfs o1 k1 HF
      go_loopw [9, 10] (fun o z wr => ∃ j : Nat, j ≤ n ∧ z = .int .i64 (j : Int) ∧ OI w.heap.size wr o (fs ++ pgs j s) ∧ Chg No w wr) (fun _ z _ => n - (intOf z).toNat)
      case atStart => exact ⟨0, Nat.zero_le _, rfl, by simpa [pgs, pgN] using o2, ch2⟩
      case round =>
        clear o2 ch2
        obtain ⟨j, hj, rfl, oj, chj⟩ := hrel
        have hszj := chj.size
        obtain ⟨oa, oc, rfl, _⟩ := id oj.view
        by_cases hjn : j < n
        · have hsuc := pgN_succ j s
          have hpl := pgs_le j s
          obtain ⟨ps, hps⟩ : ∃ ps, pgs j s = ps := ⟨_, rfl⟩
          rw [hps] at hsuc oj hpl ⊢
          have hj0 : (0 : Int) ≤ (j : Int) := Int.natCast_nonneg _
          have hj1 : (j : Int) < (n : Int) := by omega
          have hw1 : IntKind.i64.wrap ((j : Int) + 1) = (j : Int) + 1 := IntWalk.i64_in _ (by omega)
          obtain ⟨qs, hqs⟩ : ∃ qs, fs ++ ps = qs := ⟨_, rfl⟩
          have hql : qs.length < 17592186044416 := by rw [← hqs, List.length_append]; omega
          rw [hqs] at oj ⊢
          cases hbj : s.testBit j
          · have HS : Hid (fs ++ pgs (j + 1) s = qs) := Lib.hid (by rw [hsuc, hbj]; exact hqs)
            have HBJ := Lib.hid hbj
            clear hsuc hbj hps hqs
            go_wp2_with (go_at_call 168; refine (l5In_any s j hs (by omega) _).mono ?_; rintro e w' ⟨rfl, hww⟩; subst hww; rw [HBJ.out])
            go_round
            case rel => exact ⟨j + 1, by omega, by go_num, by rw [HS.out]; exact oj, chj⟩
            case measure => simp [intOf]; omega
          · have HS : Hid (fs ++ pgs (j + 1) s = qs ++ [(j : Int)]) := Lib.hid (by rw [hsuc, hbj, ← hqs]; simp)
            have HBJ := Lib.hid hbj
            clear hsuc hbj hps hqs
            go_wp2_with (first
              | (go_at_call 168; refine (l5In_any s j hs (by omega) _).mono ?_; rintro e w' ⟨rfl, hww⟩; subst hww; rw [HBJ.out])
              | (at_builtin; refine wapp1 rfl (.tmp 31) (.tmp 33) rfl oj rfl rfl hql hszj ?_))
            intro v3 w3 o3 k3 f3
            rw [← HS.out] at o3
            have ch3 := chj.step k3 (fun q hq hl => by have := (oj.lt q hq).1; omega)
            obtain ⟨a3, c3, rfl, _⟩ := id o3.view
            go_wp2_with fail
            go_round
            case rel => exact ⟨j + 1, by omega, by go_num, o3, ch3⟩
            case measure => simp [intOf]; omega
        · have hjl : j = n := by omega
          subst hjl
          go_wp2_with fail
          go_ret
          exact ⟨_, rfl, by rw [HC.out]; exact oj, chj⟩
  · have HC : Hid (chs K n s r = [-1]) := Lib.hid (by unfold chs; rw [hb]; rfl)
    have HB := Lib.hid hb
    clear hb
    have k1 := (Chg.refl No w).alloc (.cells #[.int .i64 (-1)] 3)
    have o1 : OI w.heap.size (w.alloc (.cells #[.int .i64 (-1)] 3)) (.slice (some ⟨w.heap.size, 0, none⟩) 1 1) [-1] := OI.one (Nat.le_refl _)
    go_enter Tryz.func165, Tryz.ntmps165
    go_wp2_with (go_at_call 168; refine (l5In_any s r hs hr _).mono ?_; rintro e w' ⟨rfl, hww⟩; subst hww; rw [HB.out])
    go_ret
    exact ⟨_, rfl, by rw [HC.out]; exact o1, k1⟩
end Go.Proofs.YtodnkkmjjlfoiaaGreat

/- the farthest next use: the program's plan -/
namespace Go.Proofs.YtodnkkmjjlfoiaaGreat
open Go.RowKit

/-- what the first j pages of a cache say of the farthest one -/
structure FarTo (l c : List Int) (j : Nat) (b f : Int) : Prop where
  all : ∀ q, q ∈ c.take j → q ∈ l ∧ (l.idxOf q : Int) ≤ f
  some : 0 < j → b ∈ c ∧ b ∈ l ∧ f = (l.idxOf b : Int)
  none : j = 0 → f = -1
theorem FarTo.zero (l c : List Int) : FarTo l c 0 (-1) (-1) := ⟨fun q hq => by simp at hq, fun h => absurd h (Nat.lt_irrefl _), fun _ => rfl⟩
theorem atI_in {l : List Int} {x : Int} (h : x ∈ l) : atI l x = (l.idxOf x : Int) := by unfold atI; rw [if_pos h]
theorem atI_ge {l : List Int} {x : Int} (h : 0 ≤ atI l x) : x ∈ l := by
  refine Classical.byContradiction fun e => ?_
  unfold atI at h
  rw [if_neg e] at h
  omega
theorem FarTo.hit {l c : List Int} {j : Nat} {b f : Int} (_h : FarTo l c j b f) (hj : j < c.length) (hn : c[j] ∉ l) : IsFar l c c[j] := by
  refine ⟨List.getElem_mem hj, fun q _ => ?_⟩
  rw [List.idxOf_eq_length hn]
  exact List.idxOf_le_length
theorem mem_take_snoc {l : List Int} {j : Nat} (hj : j < l.length) {q : Int} (h : q ∈ l.take (j + 1)) : q ∈ l.take j ∨ q = l[j] := by
  rw [List.take_succ_eq_append_getElem hj, List.mem_append, List.mem_singleton] at h; exact h
theorem FarTo.up {l c : List Int} {j : Nat} {b f : Int} (h : FarTo l c j b f) (hj : j < c.length) (hm : c[j] ∈ l) (hf : f < atI l c[j]) : FarTo l c (j + 1) c[j] (atI l c[j]) := by
  rw [atI_in hm] at hf ⊢
  refine ⟨fun q hq => ?_, fun _ => ⟨List.getElem_mem hj, hm, rfl⟩, fun e => by omega⟩
  rcases mem_take_snoc hj hq with hq | rfl
  · have := h.all q hq; exact ⟨this.1, by omega⟩
  · exact ⟨hm, Int.le_refl _⟩
theorem FarTo.stay {l c : List Int} {j : Nat} {b f : Int} (h : FarTo l c j b f) (hj : j < c.length) (hm : c[j] ∈ l) (hf : ¬ f < atI l c[j]) : FarTo l c (j + 1) b f := by
  rw [atI_in hm] at hf
  refine ⟨fun q hq => ?_, fun _ => ?_, fun e => by omega⟩
  · rcases mem_take_snoc hj hq with hq | rfl
    · exact h.all q hq
    · exact ⟨hm, by omega⟩
  · rcases Nat.eq_zero_or_pos j with rfl | hp
    · have := h.none rfl; omega
    · exact h.some hp
theorem FarTo.done {l c : List Int} {b f : Int} (h : FarTo l c c.length b f) (hc : 0 < c.length) : IsFar l c b := by
  obtain ⟨h1, h2, h3⟩ := h.some hc
  refine ⟨h1, fun q hq => ?_⟩
  have := (h.all q (by rw [List.take_length]; exact hq)).2
  omega
theorem IsFar.same {l c c' : List Int} {p : Int} (h : IsFar l c p) (e : ∀ x, x ∈ c ↔ x ∈ c') : IsFar l c' p := ⟨(e p).1 h.1, fun q hq => h.2 q ((e q).2 hq)⟩
theorem FarTo.fge {l c : List Int} {j : Nat} {b f : Int} (h : FarTo l c j b f) : -1 ≤ f ∧ f ≤ l.length := by
  rcases Nat.eq_zero_or_pos j with rfl | hp
  · have := h.none rfl; omega
  · obtain ⟨_, _, h3⟩ := h.some hp
    have := List.idxOf_le_length (l := l) (a := b)
    omega

set_option maxRecDepth 100000 in
set_option maxHeartbeats 1000000 in
theorem farthest_any (A B : Nat → Prop) (i : Nat) (vr vc : Value) (rq c : List Int) (w : World) (hr : RI A w vr rq) (hc : RI B w vc c) (hi : i < rq.length) (hne : 0 < c.length) :
    Calls Tryz.prog 152 #[.int .i64 (i : Int), vr, vc] w fun e w' => ∃ p, e = .returned (.int .i64 p) ∧ IsFar (rq.drop (i + 1)) c p ∧ w = w' := by
  have hlr := hr.len
  have hlc := hc.len
  obtain ⟨ra, rcap, rfl, _⟩ := id hr
  have hwi : IntKind.i64.wrap ((i : Int) + 1) = (i : Int) + 1 := IntWalk.i64_in _ (by omega)
  obtain ⟨xs, hx, hrx⟩ := hr.from (i + 1) ((i : Int) + 1) (by omega) (by omega)
  obtain ⟨L, hL⟩ : ∃ L, rq.drop (i + 1) = L := ⟨_, rfl⟩
  rw [hL] at hrx ⊢
  obtain ⟨xa, xn, xc, rfl⟩ := hrx.shape
  obtain ⟨ca, cap, rfl, hcap, hmax, hlen, _, hcc⟩ := id hc
  clear hL hr
  go_enter Tryz.func152, Tryz.ntmps152
  go_wp2_with fail
  go_loop [7, 8, 14] (fun b f z => ∃ (j : Nat) (bi fi : Int), j ≤ c.length ∧ b = .int .i64 bi ∧ f = .int .i64 fi ∧ z = .int .i64 (j : Int) ∧ Hid (FarTo L c j bi fi)) (fun _ _ z => c.length - (intOf z).toNat)
  case atStart => exact ⟨0, -1, -1, Nat.zero_le _, rfl, rfl, rfl, Lib.hid (FarTo.zero L c)⟩
  case round =>
    obtain ⟨j, bi, fi, hj, rfl, rfl, rfl, HF⟩ := hrel
    by_cases hlt : j < c.length
    · obtain ⟨b, off, rfl, _, _, hcell⟩ := hcc (by intro e; simp [e] at hlt)
      have hcl := hcell j hlt
      have hhit := Lib.hid (HF.out.hit hlt)
      have hup := Lib.hid (HF.out.up hlt)
      have hst := Lib.hid (fun hm (hf : atI L c[j] ≤ fi) => HF.out.stay hlt hm (by omega))
      have hge := HF.out.fge
      obtain ⟨y, hy⟩ : ∃ y, c[j] = y := ⟨_, rfl⟩
      have hgy : c.getD j 0 = y := by rw [List.getD_eq_getElem?_getD, List.getElem?_eq_getElem hlt]; exact hy
      rw [hgy] at hcl
      rw [hy] at hhit hup hst
      have hj0 : (0 : Int) ≤ (j : Int) := Int.natCast_nonneg _
      have hj1 : (j : Int) < (c.length : Int) := by omega
      have hw1 : IntKind.i64.wrap ((j : Int) + 1) = (j : Int) + 1 := IntWalk.i64_in _ (by omega)
      clear hcell hcc hgy hy
      go_wp2_with (go_at_call 147; refine (Index_any A _ L y _ hrx).mono ?_; rintro e w' ⟨rfl, rfl⟩)
      · go_ret
        have h : atI L y < 0 := by assumption
        exact ⟨_, rfl, hhit.out (fun hm => by rw [atI_in hm] at h; omega), rfl⟩
      · have h0 : 0 ≤ atI L y := by assumption
        have h1 : fi < atI L y := by assumption
        go_round
        case rel => exact ⟨j + 1, y, atI L y, by omega, rfl, rfl, by go_num, Lib.hid (hup.out (atI_ge h0) h1)⟩
        case measure => simp [intOf]; omega
      · have h0 : 0 ≤ atI L y := by assumption
        have h1 : atI L y ≤ fi := by assumption
        go_round
        case rel => exact ⟨j + 1, bi, fi, by omega, rfl, rfl, by go_num, Lib.hid (hst.out (atI_ge h0) h1)⟩
        case measure => simp [intOf]; omega
    · have hjl : j = c.length := by omega
      subst hjl
      have hd := HF.out.done hne
      clear hcc
      go_wp2_with fail
      go_ret
      exact ⟨_, rfl, hd, rfl⟩
end Go.Proofs.YtodnkkmjjlfoiaaGreat

/- the farthest next use: the program's plan, played -/
namespace Go.Proofs.YtodnkkmjjlfoiaaGreat
open Go.RowKit

/-- one place of a plan -/
def StepP (k : Nat) (l : List Int) (r : Int) (c c' : List Int) (o : Int) : Prop :=
  if r ∈ c then c' = c ∧ o = -1 else if c.length = k then IsFar l c o ∧ c' = stay (· == o) c ++ [r] else c' = c ++ [r] ∧ o = -1
/-- the first j places of the plan of the farthest next use; cs: the caches ahead of each place -/
structure Pln (k : Nat) (rq : List Int) (j : Nat) (cs : Nat → List Int) (pl : List Int) : Prop where
  len : pl.length = j
  zero : cs 0 = []
  step : ∀ i, i < j → StepP k (rq.drop (i + 1)) (rq.getD i 0) (cs i) (cs (i + 1)) (pl.getD i 0)
theorem Pln.start (k : Nat) (rq : List Int) : Pln k rq 0 (fun _ => []) [] := ⟨rfl, rfl, fun i hi => by omega⟩
theorem Pln.next {k : Nat} {rq : List Int} {j : Nat} {cs : Nat → List Int} {pl : List Int} (h : Pln k rq j cs pl) {r : Int} {c' : List Int} {o : Int} (hr : rq.getD j 0 = r) (hs : StepP k (rq.drop (j + 1)) r (cs j) c' o) :
    Pln k rq (j + 1) (fun i => if i ≤ j then cs i else c') (pl ++ [o]) := by
  refine ⟨by simp [h.len], by simp [h.zero], fun i hi => ?_⟩
  by_cases e : i = j
  · subst e
    rw [if_pos (Nat.le_refl _), if_neg (by omega), hr]
    have : (pl ++ [o]).getD i 0 = o := by rw [← h.len]; simp
    rw [this]; exact hs
  · have : (pl ++ [o]).getD i 0 = pl.getD i 0 := by
      rw [List.getD_eq_getElem?_getD, List.getElem?_append_left (by rw [h.len]; omega), ← List.getD_eq_getElem?_getD]
    rw [if_pos (by omega), if_pos (by omega), this]
    exact h.step i (by omega)
theorem stay_filter (p : Int) (c : List Int) : stay (· == p) c = c.filter (· != p) := rfl
theorem StepP.to5 {k : Nat} {l : List Int} {r : Int} {c c' : List Int} {o : Int} (h : StepP k l r c c' o) : Step5 k l r c c' := by
  unfold StepP at h
  unfold Step5
  split
  · rename_i hr; rw [if_pos hr] at h; exact h.1
  · rename_i hr
    rw [if_neg hr] at h
    split
    · rename_i hk; rw [if_pos hk] at h; exact ⟨o, h.1, h.2⟩
    · rename_i hk; rw [if_neg hk] at h; exact h.1
theorem Pln.ok {k : Nat} {rq : List Int} {j : Nat} {cs : Nat → List Int} {pl : List Int} (h : Pln k rq j cs pl) : ∀ i, i ≤ j → (cs i).Nodup ∧ (cs i).length ≤ k := by
  intro i
  induction i with
  | zero => intro _; rw [h.zero]; exact ⟨by simp, by simp⟩
  | succ i ih =>
    intro hi
    obtain ⟨h1, h2⟩ := ih (by omega)
    obtain ⟨g1, g2, _, _⟩ := (h.step i (by omega)).to5.ok h1 h2
    exact ⟨g1, g2⟩
/-- the faults among the first i places -/
def missC (rq : List Int) (cs : Nat → List Int) : Nat → Nat
  | 0 => 0
  | i + 1 => if hasB (cs i) (rq.getD i 0) then missC rq cs i else missC rq cs i + 1
theorem missC_le (rq : List Int) (cs : Nat → List Int) (i : Nat) : missC rq cs i ≤ i := by
  induction i with
  | zero => exact Nat.le_refl _
  | succ i ih => unfold missC; split <;> omega
theorem Pln.far {k : Nat} {rq : List Int} {cs : Nat → List Int} {pl : List Int} (h : Pln k rq rq.length cs pl) : Far k rq [] (missC rq cs rq.length) := by
  have key : ∀ d i, i + d = rq.length → ∃ f, Far k (rq.drop i) (cs i) f ∧ missC rq cs rq.length = missC rq cs i + f := by
    intro d
    induction d with
    | zero =>
      intro i hi
      have : i = rq.length := by omega
      subst this
      exact ⟨0, by rw [List.drop_length]; rfl, rfl⟩
    | succ d ih =>
      intro i hi
      obtain ⟨f, h1, h2⟩ := ih (i + 1) (by omega)
      have hd : rq.drop i = rq.getD i 0 :: rq.drop (i + 1) := by
        rw [List.drop_eq_getElem_cons (by omega), List.getD_eq_getElem?_getD, List.getElem?_eq_getElem (by omega)]; rfl
      rw [hd]
      refine ⟨_, ⟨cs (i + 1), f, (h.step i (by omega)).to5, h1, rfl⟩, ?_⟩
      rw [h2]
      show missC rq cs (i + 1) + f = _
      rw [missC]
      by_cases hm : rq.getD i 0 ∈ cs i
      · rw [if_pos (by simpa [hasB] using hm), if_pos hm]
      · rw [if_neg (by simpa [hasB] using hm), if_neg hm]; omega
  obtain ⟨f, h1, h2⟩ := key rq.length 0 (by omega)
  rw [h.zero, List.drop_zero] at h1
  rw [h2]
  have : missC rq cs 0 = 0 := rfl
  rw [this, Nat.zero_add]
  exact h1

theorem cfPlan (x : Int) (c0 : Value) (w : World) : (callFunc 172 #[.int .i64 x, c0]).run Tryz.prog w = .ok (.enter 172 #[.int .i64 x, c0]) w := by kernel_rfl
theorem cfFar (x : Int) (v c0 : Value) (w : World) : (callFunc 151 #[.int .i64 x, v, c0]).run Tryz.prog w = .ok (.enter 151 #[.int .i64 x, v, c0]) w := by kernel_rfl
set_option maxHeartbeats 400000 in
theorem planBy1_any (x o : Int) (b : Nat) (w : World) (hc : w.cell? ⟨b, 0, none⟩ = some (.int .i64 o)) :
    Calls Tryz.prog 172 #[.int .i64 x, .pointer (some ⟨b, 0, none⟩)] w fun e w' => e = .returned (.bool (x == o)) ∧ w = w' := by
  go_enter Tryz.func172, Tryz.ntmps172
  go_wp2_with fail
  go_ret
  exact ⟨rfl, rfl⟩
set_option maxHeartbeats 400000 in
theorem farthest1_any (A B : Nat → Prop) (i b : Nat) (vr vc : Value) (rq c : List Int) (w : World) (hcell : w.cell? ⟨b, 0, none⟩ = some vr) (hr : RI A w vr rq) (hc : RI B w vc c) (hi : i < rq.length) (hne : 0 < c.length) :
    Calls Tryz.prog 151 #[.int .i64 (i : Int), vc, .pointer (some ⟨b, 0, none⟩)] w fun e w' => ∃ p, e = .returned (.int .i64 p) ∧ IsFar (rq.drop (i + 1)) c p ∧ w = w' := by
  obtain ⟨ra, rn, rc, rfl⟩ := hr.shape
  obtain ⟨ca, cn, cc, rfl⟩ := hc.shape
  go_enter Tryz.func151, Tryz.ntmps151
  go_wp2_with fail
  refine (farthest_any A B i _ _ rq c w hr hc hi hne).mono ?_
  rintro e w' ⟨p, rfl, hp, rfl⟩
  go_wp2_with fail
  go_ret
  exact ⟨_, rfl, hp, rfl⟩
theorem drewNo (w : World) : Chg No w w.drew := (Chg.refl No w).drew

set_option maxRecDepth 100000 in
set_option maxHeartbeats 2000000 in
theorem planBy_any (K : Nat) (hK : 1 ≤ K ∧ K ≤ 6) (vr : Value) (rq : List Int) (w : World) (hr : RI No w vr rq) (b : Nat) (hb : w.cell? ⟨b, 0, none⟩ = some vr) :
    Calls Tryz.prog 150 #[.int .i64 (K : Int), vr, .func (.func 151) #[] #[.pointer (some ⟨b, 0, none⟩)]] w
      (Ret fun r w' => ∃ cs pl, OI w.heap.size w' r pl ∧ Pln K rq rq.length cs pl ∧ Chg No w w') := by
  have hlr := hr.len
  have hbl := World.block_lt_of_cell? w _ hb
  obtain ⟨ra, rcap, rfl, _, _, _, _, hcr⟩ := id hr
  have HCR := Lib.hid hcr
  clear hcr
  have hcf : ∀ x v (w : World), (callFunc 151 #[.int .i64 x, v, .pointer (some ⟨b, 0, none⟩)]).run Tryz.prog w = .ok (.enter 151 #[.int .i64 x, v, .pointer (some ⟨b, 0, none⟩)]) w := fun x v w => cfFar x v _ w
  have HCF := Lib.hid hcf
  clear hcf
  have k1 := ((Chg.refl No w).alloc (.cells #[] 3)).alloc (.cells #[] 3)
  have o1 : OI w.heap.size ((w.alloc (.cells #[] 3)).alloc (.cells #[] 3)) (.slice (some ⟨w.heap.size, 0, none⟩) 0 0) [] := (OI.zero (Nat.le_refl _)).alloc _
  have o2 : OI w.heap.size ((w.alloc (.cells #[] 3)).alloc (.cells #[] 3)) (.slice (some ⟨w.heap.size + 1, 0, none⟩) 0 0) [] := OI.zeroAt (by simp) (by omega)
  go_enter Tryz.func150, Tryz.ntmps150
  go_wp2_with fail
  go_loopw [7, 8, 16] (fun vc vo z wr => ∃ (j : Nat) (cs : Nat → List Int) (c pl : List Int), j ≤ rq.length ∧ z = .int .i64 (j : Int) ∧ OI w.heap.size wr vc c ∧ OI w.heap.size wr vo pl ∧ Hid (∀ q, own vc q → ¬ own vo q) ∧ Hid (Pln K rq j cs pl) ∧ Hid (cs j = c) ∧ c.length ≤ K ∧ pl.length = j ∧ Chg No w wr) (fun _ _ z _ => rq.length - (intOf z).toNat)
  case atStart => exact ⟨0, _, [], [], Nat.zero_le _, rfl, o1, o2, Lib.hid (fun q h1 h2 => by simp [own, Value.ownBlock] at h1 h2; omega), Lib.hid (Pln.start K rq), Lib.hid rfl, by simp, rfl, k1⟩
  case round =>
    clear o1 o2 k1
    obtain ⟨j, cs, c, pl, hj, rfl, oc, op, HD, HP, HC, hcl, hpl, hch⟩ := hrel
    by_cases hlt : j < rq.length
    · obtain ⟨rb, off, rfl, _, hrb, hcell⟩ := HCR.out (by intro e; simp [e] at hlt)
      have hcl2 := (hch.cellD rb (off + j) hrb (fun e => e)).trans (hcell j hlt)
      obtain ⟨x, hx⟩ : ∃ x, rq.getD j 0 = x := ⟨_, rfl⟩
      rw [hx] at hcl2
      have HX := Lib.hid hx
      have hj0 : (0 : Int) ≤ (j : Int) := Int.natCast_nonneg _
      have hj1 : (j : Int) < (rq.length : Int) := by omega
      have hw1 : IntKind.i64.wrap ((j : Int) + 1) = (j : Int) + 1 := IntWalk.i64_in _ (by omega)
      obtain ⟨ca, cap, rfl, _⟩ := id oc.view
      obtain ⟨oa, ocap, rfl, _⟩ := id op.view
      clear hcell hx
      have bl : (wr.alloc (.cells #[.int .i64 (-1)] 3)).cell? ⟨wr.heap.size, 0, none⟩ = some (.int .i64 (-1)) := by rw [World.cell?_alloc_new]; rfl
      have bf : (wr.alloc (.cells #[.int .i64 (-1)] 3)).frozen? ⟨wr.heap.size, 0, none⟩ = false := World.frozen?_alloc_new _ _ _ _
      have kw := (Chg.refl No wr).alloc (.cells #[.int .i64 (-1)] 3)
      have hws : wr.heap.size < (wr.alloc (.cells #[.int .i64 (-1)] 3)).heap.size := by simp
      have hsz := hch.size
      have HLO : Hid (∀ q, own (.slice ca c.length cap) q → q < wr.heap.size) := Lib.hid (fun q hq => (oc.lt q hq).2)
      have HLP : Hid (∀ q, own (.slice oa pl.length ocap) q → q < wr.heap.size) := Lib.hid (fun q hq => (op.lt q hq).2)
      replace oc := oc.keep kw
      replace op := op.keep kw
      replace hch := hch.keep kw
      have HPL := Lib.hid hpl
      clear hpl
      have hc17 : c.length < 17592186044416 := by omega
      have hp17 : pl.length < 17592186044416 := by rw [HPL.out]; omega
      go_wp2_with fail
      generalize wr.alloc (.cells #[.int .i64 (-1)] 3) = W at *
      refine (Contains_any No _ c x W oc.readNo).mono ?_
      rintro e w' ⟨rfl, rfl⟩
      cases hh : hasB c x
      · have hxc : x ∉ c := by simpa [hasB] using hh
        clear hh
        by_cases hf : c.length = K
        · have hfi : ((c.length : Int) == (K : Int)) = true := by rw [hf]; simp
          have HF := Lib.hid hf
          clear hf
          go_wp2_with fail
          refine (rising_any No _ c W oc.readNo).mono ?_
          rintro e w5 ⟨v5, rfl, o5, k5⟩
          obtain ⟨ra5, rc5, rfl, _⟩ := id o5.view
          have HCF1 := HCF.out
          go_wp2_with fail
          clear HCF1
          have hb5 := ((hch.keep k5).cellD b 0 hbl (fun e => e)).trans hb
          have hne : 0 < (diffL c).length := by
            have hcp : 0 < c.length := by have := HF.out; omega
            obtain ⟨y, hy⟩ := List.exists_mem_of_length_pos hcp
            exact List.length_pos_of_mem (diffL_mem.2 hy)
          refine (farthest1_any No No j b _ _ rq (diffL c) w5 hb5 (hr.keep (hch.keep k5)) o5.readNo hlt hne).mono ?_
          rintro e w' ⟨p, rfl, hp, rfl⟩
          have HS : Hid (StepP K (rq.drop (j + 1)) x (cs j) (stay (· == p) c ++ [x]) p) := Lib.hid (by
            rw [HC.out]; unfold StepP; rw [if_neg hxc, if_pos HF.out]; exact ⟨hp.same (fun y => diffL_mem), rfl⟩)
          have bf5 : w5.frozen? ⟨wr.heap.size, 0, none⟩ = false := (k5.frozenD wr.heap.size 0 hws (fun e => e)).trans bf
          have bl5 := (k5.cellD wr.heap.size 0 hws (fun e => e)).trans bl
          have ks := (Chg.refl (fun q => q = wr.heap.size) w5).setCell (p := ⟨wr.heap.size, 0, none⟩) (fun _ => rfl) (.int .i64 p)
          have blS : (w5.setCell ⟨wr.heap.size, 0, none⟩ (.int .i64 p)).cell? ⟨wr.heap.size, 0, none⟩ = some (.int .i64 p) := World.cell?_setCell_same _ _ _ bl5
          have ocS := (oc.keep k5).step ks (fun q hq e => by have := HLO.out q hq; omega)
          have opS := (op.keep k5).step ks (fun q hq e => by have := HLP.out q hq; omega)
          have chS := (hch.keep k5).step ks (fun q hq hl => by omega)
          have hwS : wr.heap.size < (w5.setCell ⟨wr.heap.size, 0, none⟩ (.int .i64 p)).heap.size := by have := k5.size; simp [World.setCell]; omega
          clear hp hb5 hne oc op hch k5 o5 kw bl bf
          go_wp2_with fail
          clear bl5 bf5
          generalize w5.setCell ⟨wr.heap.size, 0, none⟩ (.int .i64 p) = W5 at *
          refine (DeleteFunc_any _ _ c W5 ocS 172 (.pointer (some ⟨wr.heap.size, 0, none⟩)) (· == p) (fun x w => cfPlan x _ w) (fun w2 h2 x => planBy1_any x p _ w2 ((h2.cellD wr.heap.size 0 hwS (fun e => by have := HLO.out _ e; omega)).trans blS))).mono ?_
          rintro e w6 ⟨v6, rfl, o6, k6, f6⟩
          obtain ⟨c6, n6, rfl, _⟩ := id o6.view
          have op6 := opS.step k6 (fun q h1 h2 => HD.out q h2 h1)
          have ch6 := chS.step k6 (fun q hq hl => by have := (ocS.lt q hq).1; omega)
          have bl6 := (k6.cellD wr.heap.size 0 hwS (fun e => by have := HLO.out _ e; omega)).trans blS
          have hw6 : wr.heap.size < w6.heap.size := Nat.lt_of_lt_of_le hwS k6.size
          have hs6 := ch6.size
          have h617 : (stay (· == p) c).length < 17592186044416 := by have := stay_len (· == p) c; omega
          clear k6 ocS opS chS blS hwS ks
          obtain ⟨m, hm⟩ : ∃ m, stay (· == p) c ++ [x] = m := ⟨_, rfl⟩
          have HL8 : Hid (m.length ≤ K) := Lib.hid (by
            have h1 := HP.out.ok j (Nat.le_refl _)
            rw [HC.out] at h1
            have h2 := HS.out.to5
            rw [HC.out, hm] at h2
            exact (h2.ok h1.1 h1.2).2.1)
          rw [hm] at HS
          have HM := Lib.hid hm
          clear hm
          go_wp2_with (at_builtin; refine wapp1 rfl (.tmp 37) (.tmp 39) rfl o6 rfl rfl h617 hs6 ?_)
          intro v8 w8 oc8 k8 f8
          rw [HM.out] at oc8
          obtain ⟨c8, n8, rfl, _⟩ := id oc8.view
          have op8 := op6.step k8 (fun q h1 h2 => HD.out q (f6 q h2) h1)
          have bl8 := (k8.cellD wr.heap.size 0 hw6 (fun e => by have := HLO.out _ (f6 _ e); omega)).trans bl6
          have hd8 := Lib.hid (fun q (h1 : own (.slice c8 m.length n8) q) (h2 : own (.slice oa pl.length ocap) q) => show False by
            rcases f8 q h1 with h | h
            · exact HD.out q (f6 q h) h2
            · have := (op6.lt q h2).2; omega)
          have ch8 := ch6.step k8 (fun q hq hl => by have := (o6.lt q hq).1; omega)
          have hs8 := ch8.size
          clear k8 op6 bl6 ch6 hs6 o6
          go_wp2_with (at_builtin; refine wapp1 rfl (.tmp 41) (.tmp 43) rfl op8 rfl rfl hp17 hs8 ?_)
          intro v9 w9 o9 k9 f9
          obtain ⟨oz, ozc, rfl, _⟩ := id o9.view
          go_wp2_with fail
          go_round
          case rel => exact ⟨j + 1, _, m, _, by omega, by go_num, oc8.step k9 hd8.out, o9, Lib.hid (fun q h1 h2 => by rcases f9 q h2 with h | h; exact hd8.out q h1 h; have := (oc8.lt q h1).2; omega), Lib.hid (HP.out.next HX.out HS.out), Lib.hid (if_neg (by omega)), HL8.out, by rw [List.length_append, HPL.out]; rfl, ch8.step k9 (fun q hq hl => by have := (op8.lt q hq).1; omega)⟩
          case measure => simp [intOf]; omega
        · have hfi : ((c.length : Int) == (K : Int)) = false := by rw [beq_eq_false_iff_ne]; omega
          have HS : Hid (StepP K (rq.drop (j + 1)) x (cs j) (c ++ [x]) (-1)) := Lib.hid (by rw [HC.out]; unfold StepP; rw [if_neg hxc, if_neg hf]; exact ⟨rfl, rfl⟩)
          have HL8 : Hid ((c ++ [x]).length ≤ K) := Lib.hid (by rw [List.length_append, List.length_singleton]; omega)
          obtain ⟨m, hm⟩ : ∃ m, c ++ [x] = m := ⟨_, rfl⟩
          rw [hm] at HS HL8
          have HM := Lib.hid hm
          clear hm hf
          go_wp2_with (at_builtin; refine wapp1 rfl (.tmp 37) (.tmp 39) rfl oc rfl rfl hc17 (by omega) ?_)
          intro v8 w8 oc8 k8 f8
          rw [HM.out] at oc8
          obtain ⟨c8, n8, rfl, _⟩ := id oc8.view
          have op8 := op.step k8 (fun q h1 h2 => HD.out q h2 h1)
          have bl8 := (k8.cellD wr.heap.size 0 hws (fun e => by have := HLO.out _ e; omega)).trans bl
          have hd8 := Lib.hid (fun q (h1 : own (.slice c8 m.length n8) q) (h2 : own (.slice oa pl.length ocap) q) => show False by
            rcases f8 q h1 with h | h
            · exact HD.out q h h2
            · have := (op.lt q h2).2; omega)
          have ch8 := hch.step k8 (fun q hq hl => by have := (oc.lt q hq).1; omega)
          have hs8 := ch8.size
          clear k8 oc op bl hch
          go_wp2_with (at_builtin; refine wapp1 rfl (.tmp 41) (.tmp 43) rfl op8 rfl rfl hp17 hs8 ?_)
          intro v9 w9 o9 k9 f9
          obtain ⟨oz, ozc, rfl, _⟩ := id o9.view
          go_wp2_with fail
          go_round
          case rel => exact ⟨j + 1, _, m, _, by omega, by go_num, oc8.step k9 hd8.out, o9, Lib.hid (fun q h1 h2 => by rcases f9 q h2 with h | h; exact hd8.out q h1 h; have := (oc8.lt q h1).2; omega), Lib.hid (HP.out.next HX.out HS.out), Lib.hid (if_neg (by omega)), HL8.out, by rw [List.length_append, HPL.out]; rfl, ch8.step k9 (fun q hq hl => by have := (op8.lt q hq).1; omega)⟩
          case measure => simp [intOf]; omega
      · have hxc : x ∈ c := by simpa [hasB] using hh
        have HS : Hid (StepP K (rq.drop (j + 1)) x (cs j) c (-1)) := Lib.hid (by rw [HC.out]; unfold StepP; rw [if_pos hxc]; exact ⟨rfl, rfl⟩)
        have hsW := hch.size
        have HL8 := Lib.hid hcl
        clear hh hcl
        go_wp2_with (at_builtin; refine wapp1 rfl (.tmp 41) (.tmp 43) rfl op rfl rfl hp17 hsW ?_)
        intro v9 w9 o9 k9 f9
        obtain ⟨oz, ozc, rfl, _⟩ := id o9.view
        go_wp2_with fail
        go_round
        case rel => exact ⟨j + 1, _, c, _, by omega, by go_num, oc.step k9 HD.out, o9, Lib.hid (fun q h1 h2 => by rcases f9 q h2 with h | h; exact HD.out q h1 h; have := (oc.lt q h1).2; omega), Lib.hid (HP.out.next HX.out HS.out), Lib.hid (if_neg (by omega)), HL8.out, by rw [List.length_append, HPL.out]; rfl, hch.step k9 (fun q hq hl => by have := (op.lt q hq).1; omega)⟩
        case measure => simp [intOf]; omega
    · have hjl : j = rq.length := by omega
      subst hjl
      go_wp2_with fail
      go_ret
      exact ⟨_, rfl, cs, pl, op, HP.out, hch⟩
end Go.Proofs.YtodnkkmjjlfoiaaGreat

/- the program's fewest faults -/
namespace Go.Proofs.YtodnkkmjjlfoiaaGreat
open Go.RowKit

theorem Pln.mem {k : Nat} {rq : List Int} {j : Nat} {cs : Nat → List Int} {pl : List Int} (h : Pln k rq j cs pl) (hj : j ≤ rq.length) : ∀ i, i ≤ j → ∀ x ∈ cs i, x ∈ rq := by
  intro i
  induction i with
  | zero => intro _ x hx; rw [h.zero] at hx; cases hx
  | succ i ih =>
    intro hi x hx
    obtain ⟨h1, h2⟩ := h.ok i (by omega)
    obtain ⟨_, _, _, g4⟩ := (h.step i (by omega)).to5.ok h1 h2
    rcases g4 x hx with hx | rfl
    · exact ih (by omega) x hx
    · exact getD_mem (by omega)
theorem erase_stay {c : List Int} (h : c.Nodup) {p : Int} (hp : p ∈ c) : c.eraseIdx (atI c p).toNat = stay (· == p) c := by
  rw [atI_in hp, Int.toNat_natCast, stay_filter, ← List.Nodup.erase_eq_filter h, List.erase_eq_eraseIdx_of_idxOf]
  rfl
theorem elInts2 : El 135 23 (.slice none 0 0) 1 24 := El.mk' Tryz.underlying135 (by kernel_rfl) rfl (by omega)
theorem notOwnNew {g q : Nat} (h : own (.slice (some ⟨g, 0, none⟩) 0 0) q) : q = g := by
  simp only [own, Value.ownBlock] at h
  exact (Option.some.inj h).symm

set_option maxRecDepth 100000 in
set_option maxHeartbeats 4000000 in
theorem played_any (K : Nat) (hK : 1 ≤ K ∧ K ≤ 6) (vr vp : Value) (rq pl : List Int) (cs : Nat → List Int) (w : World) (hr : RI No w vr rq) (hp : RI No w vp pl) (hP : Pln K rq rq.length cs pl) (hneg : ∀ x ∈ rq, 0 ≤ x) (hl60 : rq.length ≤ 60) :
    Calls Tryz.prog 123 #[.int .i64 (K : Int), vr, vp] w (Ret fun r w' => (∃ v0, r = .tuple #[v0, .int .i64 (missC rq cs rq.length : Int), .bool true]) ∧ Chg No w w') := by
  have HPP := Lib.hid hP
  have HNEG := Lib.hid hneg
  have hpl := hP.len
  obtain ⟨ra, rcap, rfl, _, _, _, _, hcr⟩ := id hr
  obtain ⟨pa, pcap, rfl, _, _, _, _, hcp⟩ := id hp
  have HCR := Lib.hid hcr
  have HCP := Lib.hid hcp
  have HPL := Lib.hid hpl
  clear hcr hcp hpl hneg hP
  have hplI : (pl.length : Int) = (rq.length : Int) := by rw [HPL.out]
  have HPI := Lib.hid hplI
  clear hplI
  have k1 := ((Chg.refl No w).alloc (.cells #[] 3)).alloc (.cells #[] 23)
  have o1 : OI w.heap.size ((w.alloc (.cells #[] 3)).alloc (.cells #[] 23)) (.slice (some ⟨w.heap.size, 0, none⟩) 0 0) [] := (OI.zero (Nat.le_refl _)).alloc _
  have o2 : OS 23 1 w.heap.size ((w.alloc (.cells #[] 3)).alloc (.cells #[] 23)) (.slice (some ⟨w.heap.size + 1, 0, none⟩) 0 0) 0 [] := by
    have := OS.zero (E := 23) (sz := 1) (base := w.heap.size) (w := w.alloc (.cells #[] 3)) (by simp)
    rwa [World.size_alloc] at this
  go_enter Tryz.func123, Tryz.ntmps123
  go_wp2_with fail
  go_loopw [9, 10, 11, 20] (fun vc vo vf z wr => ∃ (j : Nat) (c : List Int) (us : List Value), j ≤ rq.length ∧ z = .int .i64 (j : Int) ∧ vf = .int .i64 (missC rq cs j : Int) ∧ OI w.heap.size wr vc c ∧ OS 23 1 w.heap.size wr vo j us ∧ Hid (∀ q, own vc q → ¬ own vo q) ∧ Hid (cs j = c) ∧ c.length ≤ K ∧ Chg No w wr) (fun _ _ _ z _ => rq.length - (intOf z).toNat)
  case atStart => exact ⟨0, [], [], Nat.zero_le _, rfl, rfl, o1, o2, Lib.hid (fun q h1 h2 => by have := notOwnNew h1; have := notOwnNew h2; omega), Lib.hid HPP.out.zero, by simp, k1⟩
  case round =>
    clear o1 o2 k1
    obtain ⟨j, c, us, hj, rfl, rfl, oc, oo, HD, HC, hcl, hch⟩ := hrel
    by_cases hlt : j < rq.length
    · obtain ⟨rb, off, rfl, _, hrb, hcell⟩ := HCR.out (by intro e; simp [e] at hlt)
      have hcl2 := (hch.cellD rb (off + j) hrb (fun e => e)).trans (hcell j hlt)
      obtain ⟨pb, poff, rfl, _, hpb, hpcell⟩ := HCP.out (by intro e; have := HPL.out; rw [e] at this; simp at this; omega)
      have hcl3 := (hch.cellD pb (poff + j) hpb (fun e => e)).trans (hpcell j (by rw [HPL.out]; exact hlt))
      have HST := Lib.hid (HPP.out.step j hlt)
      have HMC : Hid (missC rq cs (j + 1) = if hasB (cs j) (rq.getD j 0) then missC rq cs j else missC rq cs j + 1) := Lib.hid rfl
      have hx0 := HNEG.out _ (getD_mem hlt)
      have hcok := HPP.out.ok j hj
      have hcm := HPP.out.mem (Nat.le_refl _) j hj
      have hmok := (HPP.out.ok (j + 1) hlt).2
      have hmle := missC_le rq cs j
      obtain ⟨x, hx⟩ : ∃ x, rq.getD j 0 = x := ⟨_, rfl⟩
      obtain ⟨o, ho⟩ : ∃ o, pl.getD j 0 = o := ⟨_, rfl⟩
      obtain ⟨m, hm⟩ : ∃ m, cs (j + 1) = m := ⟨_, rfl⟩
      obtain ⟨mc, hmc⟩ : ∃ mc, missC rq cs j = mc := ⟨_, rfl⟩
      rw [HC.out] at hcok hcm HST HMC
      rw [hx] at hcl2 HST HMC hx0
      rw [ho] at hcl3 HST
      rw [hm] at HST hmok
      rw [hmc] at HMC hmle ⊢
      have HM1 : Hid (cs (j + 1) = m) := Lib.hid hm
      have hj0 : (0 : Int) ≤ (j : Int) := Int.natCast_nonneg _
      have hj1 : (j : Int) < (rq.length : Int) := by omega
      have hj2 : (j : Int) < (pl.length : Int) := by rw [HPI.out]; exact hj1
      have hw1 : IntKind.i64.wrap ((j : Int) + 1) = (j : Int) + 1 := IntWalk.i64_in _ (by omega)
      have hw2 : IntKind.i64.wrap ((mc : Int) + 1) = (mc : Int) + 1 := IntWalk.i64_in _ (by omega)
      have hmc0 : (0 : Int) ≤ (mc : Int) := Int.natCast_nonneg _
      have hn17 : j < 1099511627776 := by omega
      have hc17 : c.length < 17592186044416 := by omega
      have hsz := hch.size
      obtain ⟨ca, cap, rfl, _⟩ := id oc.view
      obtain ⟨oa, ocap, rfl, _⟩ := id oo.view
      have HOK := Lib.hid hcok
      have HCM := Lib.hid hcm
      clear hcell hpcell hx ho hm hmc hcok hcm
      go_wp2_with fail
      refine (Contains_any No _ c x wr oc.readNo).mono ?_
      rintro e w' ⟨rfl, rfl⟩
      cases hh : hasB c x
      · have hxc : x ∉ c := by simpa [hasB] using hh
        have FF : Hid (Value.int .i64 ((mc : Int) + 1) = Value.int .i64 (missC rq cs (j + 1) : Int)) := Lib.hid (by rw [HMC.out, hh]; simp)
        clear hh
        by_cases hf : c.length = K
        · have hst := HST.out
          unfold StepP at hst
          rw [if_neg hxc, if_pos hf] at hst
          obtain ⟨hfar, hm⟩ := hst
          have hoc := hfar.1
          have hidx := atI_in hoc
          have hil := List.idxOf_lt_length_of_mem hoc
          have herase := erase_stay HOK.out.1 hoc
          rw [hidx, Int.toNat_natCast] at herase
          obtain ⟨i, hi⟩ : ∃ i, c.idxOf o = i := ⟨_, rfl⟩
          rw [hi] at hidx hil herase
          rw [← herase] at hm
          have HIX := Lib.hid hidx
          have HMM := Lib.hid hm
          have hi0 : (0 : Int) ≤ (i : Int) := Int.natCast_nonneg _
          have hwi : IntKind.i64.wrap ((i : Int) + 1) = (i : Int) + 1 := IntWalk.i64_in _ (by omega)
          have he17 : (c.eraseIdx i).length < 17592186044416 := by have := List.length_eraseIdx_le c i; omega
          clear hfar hoc hidx herase hi hm hf
          go_wp2_with (go_at_call 147; refine (Index_any No _ c o _ oc.readNo).mono ?_; rintro e w' ⟨rfl, hww⟩; subst hww; rw [HIX.out])
          refine (Delete1_any _ _ c i _ wr oc hil rfl).mono ?_
          rintro e w6 ⟨v6, rfl, o6, k6, f6⟩
          obtain ⟨c6, n6, rfl, _⟩ := id o6.view
          have oo6 := oo.step k6 (fun q h1 h2 => HD.out q h2 h1)
          have ch6 := hch.step k6 (fun q hq hl => by have := (oc.lt q hq).1; omega)
          have hs6 := ch6.size
          clear k6 hcl2 hcl3
          go_wp2_with (at_builtin; refine wapp1 rfl (.tmp 50) (.tmp 52) rfl o6 rfl rfl he17 hs6 ?_)
          intro v8 w8 oc8 k8 f8
          rw [← HMM.out] at oc8
          obtain ⟨c8, n8, rfl, _⟩ := id oc8.view
          have oo8 := oo6.step k8 (fun q h1 h2 => HD.out q (f6 q h2) h1)
          have HD8 := Lib.hid (fun q (h1 : own (.slice c8 m.length n8) q) (h2 : own (.slice oa j ocap) q) => show False by
            rcases f8 q h1 with h | h
            · exact HD.out q (f6 q h) h2
            · have := (oo6.lt q h2).2; omega)
          have hch8 := ch6.step k8 (fun q hq hl => by have := (o6.lt q hq).1; omega)
          have hmk : ¬ ((K : Int) < (m.length : Int)) := by omega
          clear k8 oo6 ch6 hs6 o6 oc oo hch f6 f8
          go_wp2_with fail
          refine (rising_any No _ m w8 oc8.readNo).mono ?_
          rintro e w9 ⟨v9, rfl, o9, k9⟩
          obtain ⟨a9, n9, q9, rfl⟩ := o9.shape
          have oo9 := oo8.keep k9
          have oc9 := oc8.keep k9
          have hs9 := (hch8.keep k9).size
          have hn9 := oo9.len
          go_wp2_with (at_builtin; refine wappS1 elInts2 (by omega) rfl (.tmp 58) (.tmp 61) rfl oo9 rfl (by simp [Value.oneCell']) rfl rfl hn17 (by omega) ?_)
          intro v7 w7 h7 k7 f7
          obtain ⟨a7, c7, rfl, _⟩ := h7.view
          have oc7 := oc9.step k7 HD8.out
          have hch7 := (hch8.keep k9).step k7 (fun q hq hl => by have := (oo9.lt q hq).1; omega)
          have HD7 := Lib.hid (fun q (h1 : own (.slice c8 m.length n8) q) (h2 : own (.slice a7 (j + 1) c7) q) => show False by
            rcases f7 q h2 with h | h
            · exact HD8.out q h1 h
            · have := (oc9.lt q h1).2; omega)
          clear k7 k9 o9 oo9 oc9 oo8 oc8 hch8
          go_wp2_with fail
          go_round
          case rel => exact ⟨j + 1, m, _, by omega, by go_num, FF.out, oc7, h7, HD7, HM1, by omega, hch7⟩
          case measure => simp [intOf]; omega
        · have hst := HST.out
          unfold StepP at hst
          rw [if_neg hxc, if_neg hf] at hst
          obtain ⟨hm, rfl⟩ := hst
          have HMM := Lib.hid hm
          have HIX : Hid (atI c (-1) = -1) := Lib.hid (atI_none c (-1) (by
            have : (-1 : Int) ∉ c := fun e => by have := HNEG.out _ (HCM.out _ e); omega
            simpa [hasB] using this))
          clear hm hf
          go_wp2_with (first
            | (go_at_call 147; refine (Index_any No _ c (-1) _ oc.readNo).mono ?_; rintro e w' ⟨rfl, hww⟩; subst hww; rw [HIX.out])
            | (at_builtin; refine wapp1 rfl (.tmp 50) (.tmp 52) rfl oc rfl rfl hc17 hsz ?_))
          intro v8 w8 oc8 k8 f8
          rw [← HMM.out] at oc8
          obtain ⟨c8, n8, rfl, _⟩ := id oc8.view
          have oo8 := oo.step k8 (fun q h1 h2 => HD.out q h2 h1)
          have HD8 := Lib.hid (fun q (h1 : own (.slice c8 m.length n8) q) (h2 : own (.slice oa j ocap) q) => show False by
            rcases f8 q h1 with h | h
            · exact HD.out q h h2
            · have := (oo.lt q h2).2; omega)
          have hch8 := hch.step k8 (fun q hq hl => by have := (oc.lt q hq).1; omega)
          have hmk : ¬ ((K : Int) < (m.length : Int)) := by omega
          clear k8 oc oo hch f8 hcl2 hcl3
          go_wp2_with fail
          refine (rising_any No _ m w8 oc8.readNo).mono ?_
          rintro e w9 ⟨v9, rfl, o9, k9⟩
          obtain ⟨a9, n9, q9, rfl⟩ := o9.shape
          have oo9 := oo8.keep k9
          have oc9 := oc8.keep k9
          have hs9 := (hch8.keep k9).size
          have hn9 := oo9.len
          go_wp2_with (at_builtin; refine wappS1 elInts2 (by omega) rfl (.tmp 58) (.tmp 61) rfl oo9 rfl (by simp [Value.oneCell']) rfl rfl hn17 (by omega) ?_)
          intro v7 w7 h7 k7 f7
          obtain ⟨a7, c7, rfl, _⟩ := h7.view
          have oc7 := oc9.step k7 HD8.out
          have hch7 := (hch8.keep k9).step k7 (fun q hq hl => by have := (oo9.lt q hq).1; omega)
          have HD7 := Lib.hid (fun q (h1 : own (.slice c8 m.length n8) q) (h2 : own (.slice a7 (j + 1) c7) q) => show False by
            rcases f7 q h2 with h | h
            · exact HD8.out q h1 h
            · have := (oc9.lt q h1).2; omega)
          clear k7 k9 o9 oo9 oc9 oo8 oc8 hch8
          go_wp2_with fail
          go_round
          case rel => exact ⟨j + 1, m, _, by omega, by go_num, FF.out, oc7, h7, HD7, HM1, by omega, hch7⟩
          case measure => simp [intOf]; omega
      · have hxc : x ∈ c := by simpa [hasB] using hh
        have hst := HST.out
        unfold StepP at hst
        rw [if_pos hxc] at hst
        obtain ⟨rfl, rfl⟩ := hst
        have FF : Hid (Value.int .i64 (mc : Int) = Value.int .i64 (missC rq cs (j + 1) : Int)) := Lib.hid (by rw [HMC.out, hh]; simp)
        clear hh
        clear hcl2 hcl3
        go_wp2_with fail
        refine (rising_any No _ m wr oc.readNo).mono ?_
        rintro e w9 ⟨v9, rfl, o9, k9⟩
        obtain ⟨a9, n9, q9, rfl⟩ := o9.shape
        have oo9 := oo.keep k9
        have oc9 := oc.keep k9
        have hs9 := (hch.keep k9).size
        have hn9 := oo9.len
        go_wp2_with (at_builtin; refine wappS1 elInts2 (by omega) rfl (.tmp 58) (.tmp 61) rfl oo9 rfl (by simp [Value.oneCell']) rfl rfl hn17 (by omega) ?_)
        intro v7 w7 h7 k7 f7
        obtain ⟨a7, c7, rfl, _⟩ := h7.view
        have oc7 := oc9.step k7 HD.out
        have hch7 := (hch.keep k9).step k7 (fun q hq hl => by have := (oo9.lt q hq).1; omega)
        have HD7 := Lib.hid (fun q (h1 : own (.slice ca m.length cap) q) (h2 : own (.slice a7 (j + 1) c7) q) => show False by
          rcases f7 q h2 with h | h
          · exact HD.out q h1 h
          · have := (oc9.lt q h1).2; omega)
        clear k7 k9 o9 oo9 oc9 oo oc hch
        go_wp2_with fail
        go_round
        case rel => exact ⟨j + 1, m, _, by omega, by go_num, FF.out, oc7, h7, HD7, HM1, by omega, hch7⟩
        case measure => simp [intOf]; omega
    · have hjl : j = rq.length := by omega
      subst hjl
      obtain ⟨oa, ocap, rfl, _⟩ := id oo.view
      go_wp2_with fail
      refine bodyPost_ret (v := .tuple #[.slice oa rq.length ocap, .int .i64 (missC rq cs rq.length : Int), .bool true]) (by simp [results, Tryz.results123, go_sem]) rfl ?_
      exact ⟨_, rfl, ⟨_, rfl⟩, hch⟩
end Go.Proofs.YtodnkkmjjlfoiaaGreat

/- the reference's table of least numbers of faults -/
namespace Go.Proofs.YtodnkkmjjlfoiaaGreat
open Go.RowKit

/-- a row of slices of int, each in a block of its own, in a block of the call's -/
structure TabW (base : Nat) (w : World) (g n : Nat) (vs : List Value) (ll : List (List Int)) : Prop where
  os : OS 23 1 base w (.slice (some ⟨g, 0, none⟩) n n) n vs
  vl : vs.length = n
  rl : ll.length = n
  row : ∀ i, i < n → OI base w (vs.getD i undef) (ll.getD i [])
  far : ∀ i, i < n → ∀ q, own (vs.getD i undef) q → q ≠ g
  dis : ∀ i j, i < n → j < n → i ≠ j → ∀ q, own (vs.getD i undef) q → ¬ own (vs.getD j undef) q
theorem TabW.keep {base : Nat} {w w' : World} {g n : Nat} {vs : List Value} {ll : List (List Int)} (h : TabW base w g n vs ll) (hc : Chg No w w') : TabW base w' g n vs ll :=
  ⟨h.os.keep hc, h.vl, h.rl, fun i hi => (h.row i hi).keep hc, h.far, h.dis⟩
theorem getD_set_self {α : Type} (l : List α) (i : Nat) (x d : α) (hi : i < l.length) : (l.set i x).getD i d = x := by simp [List.getD_eq_getElem?_getD, hi]
theorem getD_set_other {α : Type} (l : List α) (i j : Nat) (x d : α) (h : i ≠ j) : (l.set i x).getD j d = l.getD j d := by simp [List.getD_eq_getElem?_getD, h]
/-- t[i] = x, x grown out of what stood there -/
theorem TabW.put {base : Nat} {w w' : World} {g n : Nat} {vs : List Value} {ll : List (List Int)} (h : TabW base w g n vs ll) {i : Nat} (hi : i < n) {x : Value} {l : List Int} (ho : OI base w' x l) (hc : Chg (own (vs.getD i undef)) w w')
    (hf : ∀ q, own x q → own (vs.getD i undef) q ∨ w.heap.size ≤ q) :
    TabW base (w'.setCell ⟨g, i, none⟩ x) g n (vs.set i x) (ll.set i l) ∧ Chg (fun q => q = g ∨ own (vs.getD i undef) q) w (w'.setCell ⟨g, i, none⟩ x) := by
  have hg : g < w.heap.size := (h.os.at).2.2.2.1
  have hgi : ¬ own (vs.getD i undef) g := fun e => h.far i hi g e rfl
  have hxg : ∀ q, own x q → q ≠ g := fun q hq e => by
    subst e
    rcases hf q hq with h1 | h1
    · exact hgi h1
    · omega
  have hos := h.os.step hc (fun q hq => by rw [own_slice.1 hq]; exact hgi)
  obtain ⟨s1, s2⟩ := hos.store i x
  have hvl := h.vl
  have hll := h.rl
  refine ⟨⟨s1, by simpa using h.vl, by simpa using h.rl, fun j hj => ?_, fun j hj q hq => ?_, fun j k hj hk hjk q hq => ?_⟩, ?_⟩
  · by_cases e : j = i
    · subst e
      rw [getD_set_self _ _ _ _ (by omega), getD_set_self _ _ _ _ (by omega)]
      exact ho.step s2 (fun q hq e => hxg q hq e)
    · rw [getD_set_other _ _ _ _ _ (Ne.symm e), getD_set_other _ _ _ _ _ (Ne.symm e)]
      exact ((h.row j hj).step hc (fun q hq e2 => h.dis j i hj hi e q hq e2)).step s2 (fun q hq e => h.far j hj q hq e)
  · by_cases e : j = i
    · subst e
      rw [getD_set_self _ _ _ _ (by omega)] at hq
      exact hxg q hq
    · rw [getD_set_other _ _ _ _ _ (Ne.symm e)] at hq
      exact h.far j hj q hq
  · by_cases e : j = i
    · subst e
      rw [getD_set_self _ _ _ _ (by omega)] at hq
      rw [getD_set_other _ _ _ _ _ hjk]
      intro hk2
      rcases hf q hq with h1 | h1
      · exact h.dis j k hj hk hjk q h1 hk2
      · have := ((h.row k hk).lt q hk2).2; omega
    · rw [getD_set_other _ _ _ _ _ (Ne.symm e)] at hq
      by_cases e2 : k = i
      · subst e2
        rw [getD_set_self _ _ _ _ (by omega)]
        intro hk2
        rcases hf q hk2 with h1 | h1
        · exact h.dis j k hj hk hjk q hq h1
        · have := ((h.row j hj).lt q hq).2; omega
      · rw [getD_set_other _ _ _ _ _ (Ne.symm e2)]
        exact h.dis j k hj hk hjk q hq
  · exact (hc.mono (T := fun q => q = g ∨ own (vs.getD i undef) q) (fun q hq _ => .inr hq)).step s2 (fun q hq _ => .inl hq)
theorem TabW.low {base : Nat} {w : World} {g n : Nat} {vs : List Value} {ll : List (List Int)} (h : TabW base w g n vs ll) {i : Nat} (hi : i < n) (q : Nat) (hq : q = g ∨ own (vs.getD i undef) q) : base ≤ q := by
  rcases hq with rfl | hq
  · exact (h.os.at).2.2.1
  · exact ((h.row i hi).lt q hq).1
/-- the cell of one of its rows -/
theorem TabW.cell {base : Nat} {w : World} {g n : Nat} {vs : List Value} {ll : List (List Int)} (h : TabW base w g n vs ll) {i : Nat} (hi : i < n) : w.cell? ⟨g, i, none⟩ = some (vs.getD i undef) ∧ w.frozen? ⟨g, i, none⟩ = false :=
  ⟨(h.os.at).1 i (by rw [h.vl]; exact hi), (h.os.at).2.1 i⟩

/-- row i of the table -/
def rowL (K n : Nat) (lr : List Nat) (i : Nat) : List Int := (List.range (2 ^ n)).map fun s => dpM K n (lr.drop i) s
/-- the table from row q on -/
def tabL (K n : Nat) (lr : List Nat) (q : Nat) : List (List Int) := (List.range (lr.length + 1)).map fun t => if q ≤ t then rowL K n lr t else []
theorem rowL_len (K n : Nat) (lr : List Nat) (i : Nat) : (rowL K n lr i).length = 2 ^ n := by simp [rowL]
theorem tabL_len (K n : Nat) (lr : List Nat) (q : Nat) : (tabL K n lr q).length = lr.length + 1 := by simp [tabL]
theorem rowL_at (K n : Nat) (lr : List Nat) (i s : Nat) (hs : s < 2 ^ n) : (rowL K n lr i).getD s 0 = dpM K n (lr.drop i) s := by simp [rowL, List.getD_eq_getElem?_getD, hs]
theorem rowL_snoc (K n : Nat) (lr : List Nat) (i s : Nat) (hs : s < 2 ^ n) : (rowL K n lr i).take (s + 1) = (rowL K n lr i).take s ++ [dpM K n (lr.drop i) s] := by
  rw [List.take_succ_eq_append_getElem (by rw [rowL_len]; exact hs)]
  congr 2
  simp [rowL]
theorem tabL_at (K n : Nat) (lr : List Nat) (q t : Nat) (ht : t < lr.length + 1) : (tabL K n lr q).getD t [] = if q ≤ t then rowL K n lr t else [] := by simp [tabL, List.getD_eq_getElem?_getD, ht]
theorem tabL_set (K n : Nat) (lr : List Nat) (i : Nat) (_hi : i < lr.length + 1) : (tabL K n lr (i + 1)).set i (rowL K n lr i) = tabL K n lr i := by
  apply List.ext_getElem
  · simp [tabL]
  · intro t h1 h2
    simp only [tabL, List.length_map, List.length_range] at h2
    rw [List.getElem_set]
    split
    · rename_i e; subst e; simp [tabL]
    · rename_i e
      simp only [tabL, List.getElem_map, List.getElem_range]
      by_cases h : i ≤ t
      · rw [if_pos (by omega), if_pos h]
      · rw [if_neg (by omega), if_neg h]
theorem tabL_last (K n : Nat) (lr : List Nat) : (List.replicate (lr.length + 1) ([] : List Int)).set lr.length (List.replicate (2 ^ n) 0) = tabL K n lr lr.length := by
  apply List.ext_getElem
  · simp [tabL]
  · intro t h1 h2
    simp only [tabL, List.length_map, List.length_range] at h2
    rw [List.getElem_set]
    split
    · rename_i e; subst e
      simp only [tabL, List.getElem_map, List.getElem_range, Nat.le_refl, if_true, rowL, List.drop_length]
      have : (fun s : Nat => dpM K n [] s) = fun _ => (0 : Int) := by funext s; rfl
      rw [this, List.map_const', List.length_range]
    · rename_i e
      simp only [tabL, List.getElem_map, List.getElem_range, List.getElem_replicate]
      rw [if_neg (by omega)]
theorem set_set_same (l : List (List Int)) (i : Nat) (a b : List Int) : (l.set i a).set i b = l.set i b := by simp

set_option maxRecDepth 100000 in
set_option maxHeartbeats 4000000 in
theorem l5Fewest_any (K n : Nat) (hK : 1 ≤ K ∧ K ≤ 6) (hn : 1 ≤ n ∧ n ≤ 8) (vr : Value) (rq : List Int) (lr : List Nat) (w : World) (hr : RI No w vr rq) (hlr : rq = lr.map Int.ofNat) (hlow : ∀ x ∈ lr, x < n) (hl60 : lr.length ≤ 60) :
    Calls Tryz.prog 146 #[.int .i64 (K : Int), .int .i64 (n : Int), vr] w (Ret fun v w' => ∃ g b N c, v = .slice (some ⟨g, 0, none⟩) (lr.length + 1) (lr.length + 1) ∧ w'.cell? ⟨g, 0, none⟩ = some (.slice (some ⟨b, 0, none⟩) N c) ∧ 0 < N ∧
      w'.cell? ⟨b, 0, none⟩ = some (.int .i64 (dpM K n lr 0)) ∧ Chg No w w') := by
  have hrl : rq.length = lr.length := by rw [hlr, List.length_map]
  obtain ⟨ra, rcap, rfl, _, _, _, _, hcr⟩ := id hr
  have HCR := Lib.hid hcr
  clear hcr
  rw [hrl] at hr HCR ⊢
  obtain ⟨N, hN⟩ : ∃ N, 2 ^ n = N := ⟨_, rfl⟩
  have hpw : wrap64 (2 ^ n) = (N : Int) := by rw [pow_wrap n (by omega), hN]
  have hN8 : N ≤ 256 := by rw [← hN]; exact pow8 hn.2
  have hN0 : 0 < N := by rw [← hN]; exact Nat.two_pow_pos n
  have HN := Lib.hid hN
  have HRL := Lib.hid hrl
  have HLR := Lib.hid hlr
  have HLOW := Lib.hid hlow
  clear hlow hN hrl hlr
  obtain ⟨M, hM⟩ : ∃ M, lr.length + 1 = M := ⟨_, rfl⟩
  rw [hM]
  have HM := Lib.hid hM
  have hM1 : M ≤ lr.length + 1 := by omega
  have hM2 : lr.length + 1 ≤ M := by omega
  clear hM
  obtain ⟨i0, hi, hz0, hz1, hz2⟩ := elInts2.info
  have hwl : IntKind.i64.wrap ((lr.length : Int) + 1) = (M : Int) := (IntWalk.i64_in _ (by omega)).trans (by omega)
  go_enter Tryz.func146, Tryz.ntmps146
  go_wp2_with (refine wpList_make_full _ rfl (.tmp 16) (.tmp 16) 135 rfl w.heap.size 23 i0 (.slice none 0 0) 1 elInts2.und hi hz0 hz1 .i64 .i64 _ _ M rfl rfl rfl rfl (by rw [hz2]; omega) (by unfold maxLen; omega) (Nat.le_refl _) ?_)
  intro W hW hg
  have hch0 := Chg.grownNone hg
  have hT0 : TabW w.heap.size W w.heap.size M (List.replicate M (.slice none 0 0)) (List.replicate M []) := by
    rw [toList_madeCells_one] at hW
    have hnil : ∀ i, i < M → (List.replicate M (Value.slice none 0 0)).getD i undef = .slice none 0 0 := fun i hi => by simp [List.getD_eq_getElem?_getD, hi]
    refine ⟨⟨by omega, by simpa using hW⟩, by simp, by simp, fun i hi => ?_, fun i hi q hq => ?_, fun i j hi _ _ q hq => ?_⟩
    · rw [hnil i hi]
      have : (List.replicate M ([] : List Int)).getD i [] = [] := by simp [List.getD_eq_getElem?_getD, hi]
      rw [this]; exact OI.nil _ _
    · rw [hnil i hi] at hq; simp [own, Value.ownBlock] at hq
    · rw [hnil i hi] at hq; simp [own, Value.ownBlock] at hq
  clear hg hW hz0 hz1 hz2 hi
  have hsW := hch0.size
  have hgW := hT0.os.at.2.2.2.1
  obtain ⟨hcw, hfw⟩ := hT0.cell (i := lr.length) (by omega)
  go_wp2_with (refine wmake rfl (.tmp 22) (.tmp 22) rfl N (congrArg (Value.int .i64) hpw) (congrArg (Value.int .i64) hpw) (by omega) ?_)
  intro W1 o1 k1
  have hgd : (List.replicate M (Value.slice none 0 0)).getD lr.length undef = .slice none 0 0 := by rw [← HM.out]; simp [List.getD_eq_getElem?_getD]
  obtain ⟨hcw, hfw⟩ := (hT0.keep k1).cell (i := lr.length) (by omega)
  obtain ⟨hT2, k2⟩ := hT0.put (i := lr.length) (by omega) (o1.weak hsW) (k1.mono (fun q hq _ => hq.elim)) (fun q hq => .inr (o1.lt q hq).1)
  have hlow2 := hT0.low (i := lr.length) (by omega)
  have etl := tabL_last K n lr
  rw [HN.out, HM.out] at etl
  rw [etl] at hT2
  rw [hgd] at hcw
  have ch2 := hch0.step k2 (fun q hq hl => by have := hlow2 q hq; omega)
  clear hT0 k1 o1 hgW hch0 hgd etl
  have hwl1 : IntKind.i64.wrap ((lr.length : Int) - 1) = (lr.length : Int) - 1 := IntWalk.i64_in _ (by omega)
  go_wp2_with fail
  clear hcw hfw k2 hlow2
  generalize W1.setCell _ _ = W2 at hT2 ch2 ⊢
  go_loopw [8] (fun z wr => ∃ (q : Nat) (vs : List Value), q ≤ lr.length ∧ z = .int .i64 ((q : Int) - 1) ∧ TabW w.heap.size wr w.heap.size M vs (tabL K n lr q) ∧ Chg No w wr) (fun z _ => (intOf z + 1).toNat)
  case atStart => exact ⟨lr.length, _, Nat.le_refl _, rfl, hT2, ch2⟩
  case round =>
    clear hT2 ch2 W2
    obtain ⟨q, vs, hq, rfl, hT, hch⟩ := hrel
    cases q with
    | zero =>
      rw [show ((0 : Nat) : Int) - 1 = -1 from rfl]
      have hrow := hT.row 0 (by omega)
      obtain ⟨hcg, _⟩ := hT.cell (i := 0) (by omega)
      rw [tabL_at K n lr 0 0 (by omega), if_pos (Nat.le_refl _)] at hrow
      obtain ⟨a1, c1, he1, hn1, hm1, hv1⟩ := hrow.view
      rw [rowL_len, HN.out] at he1 hn1 hv1
      obtain ⟨b1, rfl, _, _, hcells1, _⟩ := hv1 (by omega)
      rw [he1] at hcg
      have h0 := hcells1 0 hN0
      rw [rowL_at K n lr 0 0 (by rw [HN.out]; exact hN0), List.drop_zero] at h0
      clear hrow he1 hn1 hm1 hv1 hcells1 hT
      go_wp2_with fail
      go_ret
      exact ⟨_, rfl, _, _, _, _, rfl, hcg, hN0, h0, hch⟩
    | succ i =>
      rw [show ((i + 1 : Nat) : Int) - 1 = (i : Int) by omega]
      obtain ⟨rb, off, rfl, _, hrb, hcell⟩ := HCR.out (by intro e; have := HRL.out; rw [e] at this; simp at this; omega)
      have hcl := hcell i (by omega)
      obtain ⟨r, hrr⟩ : ∃ r, lr.getD i 0 = r := ⟨_, rfl⟩
      have hrg : rq.getD i 0 = (r : Int) := by
        rw [HLR.out, ← hrr, List.getD_eq_getElem?_getD, List.getElem?_map, List.getD_eq_getElem?_getD, List.getElem?_eq_getElem (by omega)]; rfl
      have hrn : r < n := by
        rw [← hrr, List.getD_eq_getElem?_getD, List.getElem?_eq_getElem (by omega)]
        exact HLOW.out _ (List.getElem_mem _)
      rw [hrg] at hcl
      have HREQ : Hid (∀ W, Chg No w W → W.cell? ⟨rb, off + i, none⟩ = some (.int .i64 (r : Int))) := Lib.hid (fun W h => (h.cellD rb (off + i) hrb (fun e => e)).trans hcl)
      clear hcell hrg hcl
      have hi0 : (0 : Int) ≤ (i : Int) := Int.natCast_nonneg _
      have hi1 : (i : Int) < (lr.length : Int) := by omega
      obtain ⟨i1, hi1e⟩ : ∃ i1, i + 1 = i1 := ⟨_, rfl⟩
      have hwi : IntKind.i64.wrap ((i : Int) + 1) = (i1 : Int) := (IntWalk.i64_in _ (by omega)).trans (by omega)
      have hi1a : i1 ≤ i + 1 := by omega
      have hi1b : i + 1 ≤ i1 := by omega
      have hi1c : (i1 : Int) < (M : Int) := by omega
      have hi1d : (i : Int) < (M : Int) := by omega
      have hi1f : (0 : Int) ≤ (i1 : Int) := Int.natCast_nonneg _
      have HI1 := Lib.hid hi1e
      clear hi1e
      have hwi2 : IntKind.i64.wrap ((i : Int) - 1) = (i : Int) - 1 := IntWalk.i64_in _ (by omega)
      have hdrop : lr.drop i = r :: lr.drop (i + 1) := by
        rw [List.drop_eq_getElem_cons (by omega), ← hrr, List.getD_eq_getElem?_getD, List.getElem?_eq_getElem (by omega)]; rfl
      have HDR := Lib.hid hdrop
      clear hdrop hrr
      go_wp2_with fail
      go_loopw [9] (fun z wr => ∃ (s : Nat) (vs : List Value), s ≤ N ∧ z = .int .i64 (s : Int) ∧ TabW w.heap.size wr w.heap.size M vs ((tabL K n lr (i + 1)).set i ((rowL K n lr i).take s)) ∧ Chg No w wr) (fun z _ => N - (intOf z).toNat)
      case atStart =>
        refine ⟨0, vs, Nat.zero_le _, rfl, ?_, hch⟩
        have e : (tabL K n lr (i + 1)).set i ((rowL K n lr i).take 0) = tabL K n lr (i + 1) := by
          have h0 := tabL_at K n lr (i + 1) i (by omega)
          rw [if_neg (by omega)] at h0
          rw [List.take_zero]
          apply List.ext_getElem
          · simp
          · intro t h1 h2
            rw [List.getElem_set]
            split
            · rename_i et; subst et
              rw [List.getD_eq_getElem?_getD, List.getElem?_eq_getElem h2] at h0
              exact h0.symm
            · rfl
        rw [e]; exact hT
      case round =>
        clear hT hch vs
        obtain ⟨s, vs, hs, rfl, hT, hch⟩ := hrel
        have hcl := HREQ.out wr hch
        have hs0 : (0 : Int) ≤ (s : Int) := Int.natCast_nonneg _
        have hws : IntKind.i64.wrap ((s : Int) + 1) = (s : Int) + 1 := IntWalk.i64_in _ (by omega)
        by_cases hsN : s < N
        · have hsI : (s : Int) < (N : Int) := by omega
          have hsz := hch.size
          have hrow := hT.row (i + 1) (by omega)
          rw [getD_set_other _ _ _ _ _ (by omega : i ≠ i + 1), tabL_at K n lr (i + 1) (i + 1) (by omega), if_pos (Nat.le_refl _)] at hrow
          obtain ⟨a1, c1, he1, hn1, hm1, hv1⟩ := hrow.view
          rw [rowL_len, HN.out] at he1 hn1 hv1
          obtain ⟨b1, rfl, hb1, hb1', hcells1, _⟩ := hv1 (by omega)
          have hcell1 := (hT.cell (i := i + 1) (by omega)).1
          rw [he1, HI1.out] at hcell1
          have hgl := (hT.os.at).2.2.2.1
          have HROW : Hid (∀ W, Chg No wr W → W.cell? ⟨w.heap.size, i1, none⟩ = some (.slice (some ⟨b1, 0, none⟩) N c1) ∧ ∀ t, t < N → W.cell? ⟨b1, t, none⟩ = some (.int .i64 (dpM K n (lr.drop (i + 1)) t))) := Lib.hid (fun W h => by
            refine ⟨(h.cellD _ _ hgl (fun e => e)).trans hcell1, fun t ht => ?_⟩
            rw [h.cellD _ _ hb1' (fun e => e), hcells1 t ht, rowL_at K n lr (i + 1) t (by rw [HN.out]; exact ht)])
          clear hrow he1 hn1 hm1 hv1 hcells1 hcell1
          have HT := Lib.hid hT
          clear hT
          go_wp2_with fail
          refine (l5Choices_any K n s r hK.2 hn.2 (by omega) (by omega) wr).mono ?_
          rintro e w3 ⟨v3, rfl, o3, k3⟩
          obtain ⟨L, hL⟩ : ∃ L, chs K n s r = L := ⟨_, rfl⟩
          have hLr : ∀ o ∈ L, -1 ≤ o ∧ (0 ≤ o → o < n ∧ s.testBit o.toNat = true) := fun o ho => chs_range (by rw [hL]; exact ho)
          have hLo : szM s ≤ K → ∀ o ∈ L, aft s r o < 2 ^ n ∧ szM (aft s r o) ≤ K := fun h o ho => aft_ok hn.2 (by rw [HN.out]; exact hsN) h hrn (by rw [hL]; exact ho)
          have hdp : dpM K n (lr.drop i) s = if szM s ≤ K then leastM (L.map fun o => dpM K n (lr.drop (i + 1)) (aft s r o) + (if s.testBit r then 0 else 1)) (-1) else -1 := by rw [HDR.out, dpM, hL]
          rw [hL] at o3
          have HLR2 := Lib.hid hLr
          have HLO := Lib.hid hLo
          have HDP := Lib.hid hdp
          clear hLr hLo hdp hL
          obtain ⟨la, lc, rfl, hlc1, hlc2, hlv⟩ := id o3.view
          have HLV := Lib.hid hlv
          clear hlv
          go_wp2_with fail
          go_loopw [10, 12] (fun vb z wq => ∃ (j : Nat) (b : Int), j ≤ L.length ∧ z = .int .i64 (j : Int) ∧ vb = .int .i64 b ∧ Hid (b = if szM s ≤ K then leastM ((L.take j).map fun o => dpM K n (lr.drop (i + 1)) (aft s r o) + (if s.testBit r then 0 else 1)) (-1) else -1) ∧ Hid (szM s ≤ K ∨ j = 0) ∧ Chg No w3 wq) (fun _ z _ => L.length - (intOf z).toNat)
          case atStart => exact ⟨0, -1, Nat.zero_le _, rfl, rfl, Lib.hid (by simp [leastM]), Lib.hid (.inr rfl), Chg.refl _ _⟩
          case round =>
            obtain ⟨j, b, hj, rfl, rfl, HB, HZ, hq⟩ := hrel
            have hj0 : (0 : Int) ≤ (j : Int) := Int.natCast_nonneg _
            by_cases hgo : j < L.length ∧ szM s ≤ K
            · obtain ⟨hjl, hsk⟩ := hgo
              have hj1 : (j : Int) < (L.length : Int) := by omega
              have hskI : (szM s : Int) ≤ (K : Int) := by omega
              obtain ⟨cb, rfl, _, hcb, hccell, _⟩ := HLV.out (by omega)
              have hc1 := (hq.cellD cb j hcb (fun e => e)).trans (hccell j hjl)
              obtain ⟨o, ho⟩ : ∃ o, L.getD j 0 = o := ⟨_, rfl⟩
              rw [ho] at hc1
              have hom : o ∈ L := ho ▸ getD_mem hjl
              obtain ⟨t, ht⟩ : ∃ t, aft s r o = t := ⟨_, rfl⟩
              have htok := HLO.out hsk o hom
              rw [ht, HN.out] at htok
              obtain ⟨hr1, hr2⟩ := HROW.out wr (k3.keep hq)
              have hr3 := hr2 t htok.1
              obtain ⟨d, hd⟩ : ∃ d, dpM K n (lr.drop (i + 1)) t = d := ⟨_, rfl⟩
              rw [hd] at hr3
              have hdb := dpM_spec (k := K) hK.1 hn.2 (lr.drop (i + 1)) t (fun x hx => HLOW.out x (List.mem_of_mem_drop hx)) (by rw [HN.out]; exact htok.1) htok.2
              rw [hd, List.length_drop] at hdb
              have hd0 := hdb.1
              have hd1 : d ≤ 60 := by have := hdb.2.1; omega
              have hreq := HREQ.out wr ((hch.keep k3).keep hq)
              have hor := HLR2.out o hom
              have hstep : ∀ b2 : Int, (b2 = if b < 0 ∨ d + (if s.testBit r then 0 else 1) < b then d + (if s.testBit r then 0 else 1) else b) →
                  b2 = if szM s ≤ K then leastM ((L.take (j + 1)).map fun o => dpM K n (lr.drop (i + 1)) (aft s r o) + (if s.testBit r then 0 else 1)) (-1) else -1 := fun b2 e => by
                have hb := HB.out
                rw [if_pos hsk] at hb
                have hgj : L[j] = o := by rw [← ho, List.getD_eq_getElem?_getD, List.getElem?_eq_getElem hjl]; rfl
                rw [if_pos hsk, List.take_succ_eq_append_getElem hjl, List.map_append, List.map_singleton, leastM_snoc, ← hb, hgj, ht, hd]
                exact e
              have HSTEP := Lib.hid hstep
              have ht0 : (t : Int) < (N : Int) := by omega
              have hwj : IntKind.i64.wrap ((j : Int) + 1) = (j : Int) + 1 := IntWalk.i64_in _ (by omega)
              have hwd : IntKind.i64.wrap (d + 1) = d + 1 := IntWalk.i64_in _ (by omega)
              clear hstep hdb hr2 hom hd htok HB hccell ho
              go_wp2_with (go_at_call 166; refine (l5Size_any s (by omega) _).mono ?_; rintro e w' ⟨rfl, hww⟩; subst hww)
              have hor8 : 0 ≤ o → o < 8 ∧ s.testBit o.toNat = true := fun h => ⟨by have := (hor.2 h).1; omega, (hor.2 h).2⟩
              have hAft : ∀ w, Calls Tryz.prog 167 #[.int .i64 (s : Int), .int .i64 (r : Int), .int .i64 o] w fun e w' => e = .returned (.int .i64 (t : Int)) ∧ w = w' := fun w => by
                rw [← ht]; exact l5After_any s r o (by omega) (by omega) w hor.1 hor8
              go_quiet ((go_at_call 167; exact quiet_sym (hAft _)))
              have kd := (Chg.refl No wr).drewN nq
              have hreq1 := (kd.cellD rb (off + i) (by have := (k3.keep hq).size; have := hch.size; omega) (fun e => e)).trans hreq
              replace hq := hq.keep kd
              clear hr1 hr3 hc1 hreq kd hor hor8
              generalize wr.drewN nq = W5 at hq hreq1 ⊢
              cases hbit : s.testBit r
              all_goals
                have HBIT := Lib.hid hbit
                clear hbit
                go_wp2_with (go_at_call 168; refine (l5In_any s r (by omega) (by omega) _).mono ?_; rintro e w' ⟨rfl, hww⟩; subst hww; rw [HBIT.out])
              all_goals
                go_round
                case rel => exact ⟨j + 1, _, by omega, by go_num, rfl, Lib.hid (HSTEP.out _ (by rw [HBIT.out]; simp only [Bool.false_eq_true, if_false, if_true]; split <;> omega)), Lib.hid (.inl hsk), hq⟩
                case measure => simp [intOf]; omega
            · have HV : Hid (b = dpM K n (lr.drop i) s) := Lib.hid (by
                rw [HDP.out, HB.out]
                split
                · rename_i hsk
                  have : j = L.length := by
                    have : ¬ j < L.length := fun e => hgo ⟨e, hsk⟩
                    omega
                  rw [this, List.take_length]
                · rfl)
              have hTq := (HT.out.keep k3).keep hq
              have hrow := hTq.row i (by omega)
              obtain ⟨hcg, hfg⟩ := hTq.cell (i := i) (by omega)
              have hlst : ((tabL K n lr (i + 1)).set i ((rowL K n lr i).take s)).getD i [] = (rowL K n lr i).take s := getD_set_self _ _ _ _ (by rw [tabL_len]; omega)
              rw [hlst] at hrow
              obtain ⟨R, hR⟩ : ∃ R, (rowL K n lr i).take s = R := ⟨_, rfl⟩
              have hRl : R.length < 17592186044416 := by rw [← hR, List.length_take]; omega
              rw [hR] at hrow
              have HR := Lib.hid hR
              have HVS : Hid (vs.getD i undef = vs.getD i undef) := Lib.hid rfl
              obtain ⟨x, hx⟩ : ∃ x, vs.getD i undef = x := ⟨_, rfl⟩
              rw [hx] at hrow hcg
              obtain ⟨xa, xc, rfl, _⟩ := id hrow.view
              have HX := Lib.hid hx
              have chq := (hch.keep k3).keep hq
              have hszq := chq.size
              have hgq : w.heap.size < wr.heap.size := (hTq.os.at).2.2.2.1
              have HTQ := Lib.hid hTq
              clear hx hR hlst hTq HB HDP
              by_cases hjl : j < L.length
              · have hsk : (K : Int) < (szM s : Int) := by
                  have : ¬ szM s ≤ K := fun e => hgo ⟨hjl, e⟩
                  omega
                have hj1 : (j : Int) < (L.length : Int) := by omega
                clear hgo
                go_wp2_with (first
                  | (go_at_call 166; refine (l5Size_any s (by omega) _).mono ?_; rintro e w' ⟨rfl, hww⟩; subst hww)
                  | (at_builtin; refine wapp1 rfl (.tmp 97) (.tmp 99) rfl hrow rfl rfl hRl hszq ?_))
                intro v9 w9 o9 k9 f9
                rw [HV.out, ← HR.out, ← rowL_snoc K n lr i s (by rw [HN.out]; exact hsN)] at o9
                have k9' : Chg (own (vs.getD i undef)) wr w9 := by rw [HX.out]; exact k9
                obtain ⟨hT9, c9⟩ := HTQ.out.put (i := i) (by omega) o9 k9' (fun q hq => by rw [HX.out]; exact f9 q hq)
                have hlow9 := HTQ.out.low (i := i) (by omega)
                have hng : ¬ own (vs.getD i undef) w.heap.size := fun e => HTQ.out.far i (by omega) _ e rfl
                have hcg9 := (k9'.cellD w.heap.size i hgq hng).trans hcg
                have hfg9 := (k9'.frozenD w.heap.size i hgq hng).trans hfg
                rw [set_set_same] at hT9
                obtain ⟨R9, hR9⟩ : ∃ R9, (rowL K n lr i).take (s + 1) = R9 := ⟨_, rfl⟩
                rw [hR9] at hT9 o9
                have HR9 := Lib.hid hR9
                clear hR9
                have ch9 := chq.step c9 (fun q hq hl => by have := hlow9 q hq; omega)
                obtain ⟨ya, yc, rfl, _⟩ := id o9.view
                clear k9 k9' c9 hlow9 hcg hfg
                go_wp2_with fail
                clear hcg9 hfg9
                go_round
                case rel => exact ⟨s + 1, _, by omega, by go_num, by rw [HR9.out]; exact hT9, ch9⟩
                case measure => simp [intOf]; omega
              · have hj1 : ¬ ((j : Int) < (L.length : Int)) := by omega
                clear hgo
                go_wp2_with (first
                  | (go_at_call 166; refine (l5Size_any s (by omega) _).mono ?_; rintro e w' ⟨rfl, hww⟩; subst hww)
                  | (at_builtin; refine wapp1 rfl (.tmp 97) (.tmp 99) rfl hrow rfl rfl hRl hszq ?_))
                intro v9 w9 o9 k9 f9
                rw [HV.out, ← HR.out, ← rowL_snoc K n lr i s (by rw [HN.out]; exact hsN)] at o9
                have k9' : Chg (own (vs.getD i undef)) wr w9 := by rw [HX.out]; exact k9
                obtain ⟨hT9, c9⟩ := HTQ.out.put (i := i) (by omega) o9 k9' (fun q hq => by rw [HX.out]; exact f9 q hq)
                have hlow9 := HTQ.out.low (i := i) (by omega)
                have hng : ¬ own (vs.getD i undef) w.heap.size := fun e => HTQ.out.far i (by omega) _ e rfl
                have hcg9 := (k9'.cellD w.heap.size i hgq hng).trans hcg
                have hfg9 := (k9'.frozenD w.heap.size i hgq hng).trans hfg
                rw [set_set_same] at hT9
                obtain ⟨R9, hR9⟩ : ∃ R9, (rowL K n lr i).take (s + 1) = R9 := ⟨_, rfl⟩
                rw [hR9] at hT9 o9
                have HR9 := Lib.hid hR9
                clear hR9
                have ch9 := chq.step c9 (fun q hq hl => by have := hlow9 q hq; omega)
                obtain ⟨ya, yc, rfl, _⟩ := id o9.view
                clear k9 k9' c9 hlow9 hcg hfg
                go_wp2_with fail
                clear hcg9 hfg9
                go_round
                case rel => exact ⟨s + 1, _, by omega, by go_num, by rw [HR9.out]; exact hT9, ch9⟩
                case measure => simp [intOf]; omega
        · have hsl : s = N := by omega
          subst hsl
          have hTN := hT
          rw [List.take_of_length_le (by rw [rowL_len, HN.out]; exact Nat.le_refl _), tabL_set K n lr i (by omega)] at hTN
          have HTN := Lib.hid hTN
          clear hTN hT hcl
          go_wp2_with fail
          go_round
          case rel => exact ⟨i, vs, by omega, rfl, HTN.out, hch⟩
          case measure => show ((i : Int) - 1 + 1).toNat < ((i : Int) + 1).toNat; omega
end Go.Proofs.YtodnkkmjjlfoiaaGreat

/- FewestFaults, both sides -/
namespace Go.Proofs.YtodnkkmjjlfoiaaGreat
open Go.RowKit

def pagB (k n : Int) (l : List Int) : Bool := inB k 1 6 && reqB n l
/-- the fewest faults -/
def fewN (k n : Int) (l : List Int) : Int := dpM k.toNat n.toNat (l.map Int.toNat) 0
/-- what is told of them -/
def fewV (k n : Int) (l : List Int) : Int := if pagB k n l then fewN k n l else 0
theorem pagB_facts {k n : Int} {l : List Int} (h : pagB k n l = true) : (1 ≤ k ∧ k ≤ 6) ∧ (1 ≤ n ∧ n ≤ 8) ∧ l.length ≤ 60 ∧ ∀ x ∈ l, 0 ≤ x ∧ x < n := by
  unfold pagB reqB at h
  simp only [Bool.and_eq_true, inB_iff, decide_eq_true_eq] at h
  obtain ⟨h1, ⟨h2, h3⟩, h4⟩ := h
  refine ⟨h1, h2, h3, fun x hx => ?_⟩
  unfold belowB at h4
  have := List.all_eq_true.1 h4 x hx
  simp only [inB_iff] at this
  omega
theorem toNat_back {l : List Int} (h : ∀ x ∈ l, 0 ≤ x) : l = (l.map Int.toNat).map Int.ofNat := by
  rw [List.map_map]
  conv => lhs; rw [← List.map_id l]
  exact List.map_congr_left (fun x hx => by have := h x hx; simp [Function.comp]; omega)
theorem fewN_ok {k n : Int} {l : List Int} (h : pagB k n l = true) : 0 ≤ fewN k n l ∧ Fewest k.toNat l (fewN k n l).toNat := by
  obtain ⟨h1, h2, h3, h4⟩ := pagB_facts h
  have := dpM_fewest (k := k.toNat) (n := n.toNat) (by omega) (by omega) (l.map Int.toNat) (fun x hx => by
    obtain ⟨y, hy, rfl⟩ := List.mem_map.1 hx
    have := h4 y hy
    omega)
  rw [← toNat_back (fun x hx => (h4 x hx).1)] at this
  exact this

set_option maxRecDepth 100000 in
set_option maxHeartbeats 1000000 in
theorem farthestPlan_any (K : Nat) (hK : 1 ≤ K ∧ K ≤ 6) (vr : Value) (rq : List Int) (w : World) (hr : RI No w vr rq) :
    Calls Tryz.prog 124 #[.int .i64 (K : Int), vr] w (Ret fun r w' => ∃ cs pl, OI w.heap.size w' r pl ∧ Pln K rq rq.length cs pl ∧ Chg No w w') := by
  obtain ⟨ra, rn, rc, rfl⟩ := hr.shape
  have k0 := (Chg.refl No w).alloc (.cells #[.slice ra rn rc] 23)
  have hc : (w.alloc (.cells #[.slice ra rn rc] 23)).cell? ⟨w.heap.size, 0, none⟩ = some (.slice ra rn rc) := by rw [World.cell?_alloc_new]; rfl
  go_enter Tryz.func124, Tryz.ntmps124
  go_wp2_with fail
  refine (planBy_any K hK _ rq _ (hr.keep k0) w.heap.size hc).mono ?_
  rintro e w1 ⟨v1, rfl, cs, pl, o1, hP, k1⟩
  obtain ⟨a1, n1, c1, rfl⟩ := o1.shape
  clear hc
  go_wp2_with fail
  go_ret
  exact ⟨_, rfl, cs, pl, o1.weak (by simp), hP, k0.keep k1⟩
set_option maxRecDepth 100000 in
set_option maxHeartbeats 1000000 in
theorem fewestFaults_any (K : Nat) (hK : 1 ≤ K ∧ K ≤ 6) (vr : Value) (rq : List Int) (w : World) (hr : RI No w vr rq) (hneg : ∀ x ∈ rq, 0 ≤ x) (hl60 : rq.length ≤ 60) (f : Nat) (hf : Fewest K rq f) :
    Calls Tryz.prog 75 #[.int .i64 (K : Int), vr] w (Ret fun r w' => r = .int .i64 (f : Int) ∧ Chg No w w') := by
  have HNEG := Lib.hid hneg
  clear hneg
  obtain ⟨ra, rn, rc, rfl⟩ := hr.shape
  go_enter Tryz.func75, Tryz.ntmps75
  go_wp2_with fail
  refine (farthestPlan_any K hK _ rq w hr).mono ?_
  rintro e w1 ⟨v1, rfl, cs, pl, o1, hP, k1⟩
  obtain ⟨a1, n1, c1, rfl⟩ := o1.shape
  go_wp2_with fail
  refine (played_any K hK _ _ rq pl cs w1 (hr.keep k1) o1.readNo hP HNEG.out hl60).mono ?_
  rintro e w2 ⟨_, rfl, ⟨v0, rfl⟩, k2⟩
  have hfe : missC rq cs rq.length = f := (far_fewest hP.far).uni hf
  have HF := Lib.hid hfe
  clear hfe
  go_wp2_with fail
  go_ret
  exact ⟨_, rfl, by rw [HF.out]; rfl, k1.keep k2⟩
set_option maxRecDepth 100000 in
set_option maxHeartbeats 1000000 in
theorem isPaging_any (A : Nat → Prop) (k n : Int) (vr : Value) (rq : List Int) (w : World) (hr : RI A w vr rq) :
    Calls Tryz.prog 74 #[.int .i64 k, .int .i64 n, vr] w (Ret fun r w' => r = .bool (pagB k n rq) ∧ Chg No w w') := by
  obtain ⟨ra, rn, rc, rfl⟩ := hr.shape
  cases h : inB k 1 6
  · have H : Hid (pagB k n rq = false) := Lib.hid (by unfold pagB; rw [h]; rfl)
    have HI := Lib.hid h
    clear h
    go_enter Tryz.func74, Tryz.ntmps74
    go_wp2_with (go_at_call 92; refine (isSize_any _ _).mono ?_; rintro e w' ⟨rfl, hww⟩; subst hww; rw [HI.out])
    go_ret
    exact ⟨_, rfl, by rw [H.out]; rfl, Chg.refl _ _⟩
  · have H : Hid (pagB k n rq = (inB n 1 8 && decide (rq.length ≤ 60) && belowB n rq)) := Lib.hid (by unfold pagB; rw [h]; rfl)
    have HI := Lib.hid h
    clear h
    go_enter Tryz.func74, Tryz.ntmps74
    go_wp2_with (go_at_call 92; refine (isSize_any _ _).mono ?_; rintro e w' ⟨rfl, hww⟩; subst hww; rw [HI.out])
    refine (IsRequests_any A _ rq n w hr).mono ?_
    rintro e w1 ⟨_, rfl, rfl, k1⟩
    rw [← H.out]
    go_wp2_with fail
    go_ret
    exact ⟨_, rfl, rfl, k1⟩
set_option maxRecDepth 100000 in
set_option maxHeartbeats 1000000 in
theorem implFewest_any (k n : Int) (vr : Value) (rq : List Int) (w : World) (hr : RI No w vr rq) :
    Calls Tryz.prog 35 #[.int .i64 k, .int .i64 n, vr] w (Ret2 fun v0 v1 w' => v0 = .int .i64 (fewV k n rq) ∧ v1 = .bool (pagB k n rq) ∧ Chg No w w') := by
  obtain ⟨ra, rn, rc, rfl⟩ := hr.shape
  go_enter Tryz.func35, Tryz.ntmps35
  go_wp2_with fail
  refine (isPaging_any No k n _ rq w hr).mono ?_
  rintro e w1 ⟨_, rfl, rfl, k1⟩
  cases h : pagB k n rq
  · have HV : Hid (fewV k n rq = 0) := Lib.hid (by unfold fewV; rw [h]; rfl)
    have HQ := Lib.hid h
    clear h
    go_wp2_with fail
    go_ret2
    exact ⟨_, _, rfl, by rw [HV.out]; rfl, by rw [HQ.out]; rfl, k1⟩
  · have hv : fewV k n rq = fewN k n rq := by unfold fewV; rw [h]; rfl
    obtain ⟨h1, h2, h3, h4⟩ := pagB_facts h
    obtain ⟨f0, f1⟩ := fewN_ok h
    obtain ⟨K, rfl⟩ := Int.eq_ofNat_of_zero_le (show 0 ≤ k by omega)
    obtain ⟨f, hf⟩ := Int.eq_ofNat_of_zero_le f0
    rw [hf, Int.toNat_natCast, Int.toNat_natCast] at f1
    have HQ := Lib.hid h
    have HF := Lib.hid (hv.trans hf)
    have H4 := Lib.hid h4
    clear h4 h hf f0 hv
    go_wp2_with fail
    refine (fewestFaults_any K (by omega) _ rq w1 (hr.keep k1) (fun x hx => (H4.out x hx).1) h3 f f1).mono ?_
    rintro e w2 ⟨_, rfl, rfl, k2⟩
    go_wp2_with fail
    go_ret2
    exact ⟨_, _, rfl, by rw [HF.out]; rfl, by rw [HQ.out]; rfl, k1.keep k2⟩

set_option maxRecDepth 100000 in
set_option maxHeartbeats 1000000 in
theorem l5Opt_any (k n : Int) (vr : Value) (rq : List Int) (w : World) (hr : RI No w vr rq) (hp : pagB k n rq = true) :
    Calls Tryz.prog 112 #[.int .i64 k, .int .i64 n, vr] w (Ret fun r w' => r = .int .i64 (fewN k n rq) ∧ Chg No w w') := by
  obtain ⟨h1, h2, h3, h4⟩ := pagB_facts hp
  have hlr := toNat_back (fun x hx => (h4 x hx).1)
  have HLR := Lib.hid hlr
  have hlow : ∀ x ∈ rq.map Int.toNat, x < n.toNat := fun x hx => by
    obtain ⟨y, hy, rfl⟩ := List.mem_map.1 hx
    have := h4 y hy
    omega
  have HLOW := Lib.hid hlow
  obtain ⟨K, rfl⟩ := Int.eq_ofNat_of_zero_le (show 0 ≤ k by omega)
  obtain ⟨N, rfl⟩ := Int.eq_ofNat_of_zero_le (show 0 ≤ n by omega)
  have HV : Hid (fewN (K : Int) (N : Int) rq = dpM K N (rq.map Int.toNat) 0) := Lib.hid rfl
  obtain ⟨ra, rn, rc, rfl⟩ := hr.shape
  clear hlr hlow h4 hp
  go_enter Tryz.func112, Tryz.ntmps112
  go_wp2_with fail
  refine (l5Fewest_any K N (by omega) (by omega) _ rq (rq.map Int.toNat) w hr HLR.out HLOW.out (by rw [List.length_map]; exact h3)).mono ?_
  rintro e w1 ⟨_, rfl, g, b, M, c, rfl, c1, hM, c2, k1⟩
  obtain ⟨z, hz⟩ : ∃ z, (rq.map Int.toNat).length + 1 = z := ⟨_, rfl⟩
  rw [hz]
  have hz0 : (0 : Int) < (z : Int) := by omega
  have hM0 : (0 : Int) < (M : Int) := by omega
  clear hz
  go_wp2_with fail
  go_ret
  exact ⟨_, rfl, by rw [HV.out]; rfl, k1⟩
end Go.Proofs.YtodnkkmjjlfoiaaGreat
