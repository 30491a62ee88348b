import Derived.Test.YtdgcohoneijleaaGreatBa
/- sets of pages as digits; the table of least numbers of faults (plain) -/
namespace Go.Proofs.YtdgcohoneijleaaGreat

/-- how many digits are 1 -/
def szM (s : Nat) : Nat := if h : s = 0 then 0 else s % 2 + szM (s / 2)
termination_by s
decreasing_by omega
theorem szM_zero : szM 0 = 0 := by unfold szM; rfl
theorem szM_pos {s : Nat} (h : s ≠ 0) : szM s = s % 2 + szM (s / 2) := by rw [szM, dif_neg h]
theorem szM_step (s : Nat) : szM s = s % 2 + szM (s / 2) := by
  by_cases h : s = 0
  · subst h; simp [szM_zero]
  · exact szM_pos h
/-- the digits' pages -/
def pgN (n s : Nat) : List Nat := (List.range n).filter (fun x => s.testBit x)
theorem pgN_len (n : Nat) : ∀ s, s < 2 ^ n → (pgN n s).length = szM s := by
  induction n with
  | zero =>
    intro s hs
    have : s = 0 := by simpa using hs
    subst this; simp [pgN, szM_zero]
  | succ n ih =>
    intro s hs
    have h2 : s / 2 < 2 ^ n := by rw [Nat.pow_succ] at hs; omega
    have e := ih (s / 2) h2
    rw [szM_step, ← e]
    unfold pgN
    rw [List.range_succ_eq_map, List.filter_cons, List.filter_map]
    have : ((fun x => s.testBit x) ∘ Nat.succ) = fun x => (s / 2).testBit x := by funext x; simp [Function.comp, Nat.testBit_succ]
    rw [this]
    by_cases hb : s % 2 = 1
    · have : s.testBit 0 = true := by simp [hb]
      simp [hb]
      omega
    · have h0 : s % 2 = 0 := by omega
      have : s.testBit 0 = false := by simp [h0]
      simp [h0]
def pgs (n s : Nat) : List Int := (pgN n s).map Int.ofNat
theorem pgs_len (n s : Nat) (hs : s < 2 ^ n) : (pgs n s).length = szM s := by rw [pgs, List.length_map, pgN_len n s hs]
theorem pgs_mem (n s : Nat) (x : Int) : x ∈ pgs n s ↔ ∃ k : Nat, x = k ∧ k < n ∧ s.testBit k = true := by
  simp only [pgs, pgN, List.mem_map, List.mem_filter, List.mem_range]
  constructor
  · rintro ⟨k, ⟨h1, h2⟩, rfl⟩; exact ⟨k, rfl, h1, h2⟩
  · rintro ⟨k, rfl, h1, h2⟩; exact ⟨k, ⟨h1, h2⟩, rfl⟩
theorem pgs_nodup (n s : Nat) : (pgs n s).Nodup := by
  unfold pgs
  rw [List.Nodup, List.pairwise_map]
  exact (List.nodup_range.filter _).imp (fun h e => h (Int.ofNat.inj e))

theorem sub_bit : ∀ s, s < 256 → ∀ x, x < 8 → s.testBit x = true → s - 2 ^ x < 256 ∧ 2 ^ x ≤ s ∧ ∀ j, j < 8 → (s - 2 ^ x).testBit j = (s.testBit j && !(j == x)) := by decide +kernel
theorem bit_hi {n s j : Nat} (hs : s < 2 ^ n) (hj : n ≤ j) : s.testBit j = false := by
  apply Nat.testBit_lt_two_pow
  exact Nat.lt_of_lt_of_le hs (Nat.pow_le_pow_right (by omega) hj)
theorem pow8 {n : Nat} (hn : n ≤ 8) : 2 ^ n ≤ 256 := Nat.pow_le_pow_right (n := 2) (by omega) hn
theorem sub_bits {n s x : Nat} (hn : n ≤ 8) (hs : s < 2 ^ n) (hx : x < n) (h : s.testBit x = true) : s - 2 ^ x < 2 ^ n ∧ 2 ^ x ≤ s ∧ ∀ j, (s - 2 ^ x).testBit j = (s.testBit j && !(j == x)) := by
  have h8 := pow8 hn
  obtain ⟨_, h2, h3⟩ := sub_bit s (by omega) x (by omega) h
  refine ⟨Nat.lt_of_le_of_lt (Nat.sub_le _ _) hs, h2, fun j => ?_⟩
  by_cases hj : j < 8
  · exact h3 j hj
  · rw [bit_hi (n := 8) (s := s) (by omega) (by omega), bit_hi (n := 8) (s := s - 2 ^ x) (by omega) (by omega)]; rfl
theorem or_bits {n s x : Nat} (hs : s < 2 ^ n) (hx : x < n) : s ||| 2 ^ x < 2 ^ n ∧ ∀ j, (s ||| 2 ^ x).testBit j = (s.testBit j || j == x) := by
  refine ⟨Nat.or_lt_two_pow hs (Nat.pow_lt_pow_right (by omega) hx), fun j => ?_⟩
  rw [Nat.testBit_or, Nat.testBit_two_pow]
  congr 1
  by_cases h : x = j
  · subst h; simp
  · simp [h, Ne.symm h]

/-- the set behind a request -/
def aft (s : Nat) (r : Nat) (out : Int) : Nat := (if 0 ≤ out then s - 2 ^ out.toNat else s) ||| 2 ^ r
/-- what a plan may say -/
def chs (k n s r : Nat) : List Int := if s.testBit r then [-1] else (if szM s < k then [-1] else []) ++ pgs n s
/-- the least number, -1 of none -/
def leastM : List Int → Int → Int
  | [], b => b
  | x :: l, b => leastM l (if b < 0 ∨ x < b then x else b)
def dpM (k n : Nat) : List Nat → Nat → Int
  | [], _ => 0
  | r :: l, s => if szM s ≤ k then leastM ((chs k n s r).map fun o => dpM k n l (aft s r o) + (if s.testBit r then 0 else 1)) (-1) else -1

theorem leastM_spec (l : List Int) : ∀ b : Int, (∀ x ∈ l, 0 ≤ x) → (0 ≤ b → leastM l b ≤ b) ∧ (∀ x ∈ l, leastM l b ≤ x) ∧ (0 ≤ b ∨ l ≠ [] → 0 ≤ leastM l b ∧ (leastM l b = b ∨ leastM l b ∈ l)) := by
  induction l with
  | nil => intro b _; exact ⟨fun _ => Int.le_refl _, by simp, fun h => by rcases h with h | h; exact ⟨h, .inl rfl⟩; exact absurd rfl h⟩
  | cons x l ih =>
    intro b hl
    have hx := hl x (List.mem_cons_self ..)
    have ih' := ih (if b < 0 ∨ x < b then x else b) (fun y hy => hl y (List.mem_cons_of_mem _ hy))
    obtain ⟨h1, h2, h3⟩ := ih'
    have hnb : 0 ≤ (if b < 0 ∨ x < b then x else b) := by split <;> omega
    have g1 := h1 hnb
    obtain ⟨g2, g3⟩ := h3 (.inl hnb)
    have e : leastM (x :: l) b = leastM l (if b < 0 ∨ x < b then x else b) := rfl
    rw [e]
    refine ⟨fun hb => ?_, fun y hy => ?_, fun _ => ⟨g2, ?_⟩⟩
    · split at g1 <;> omega
    · rcases List.mem_cons.1 hy with rfl | hy
      · split at g1 <;> omega
      · exact h2 y hy
    · rcases g3 with g3 | g3
      · rw [g3]
        split
        · exact .inr (List.mem_cons_self ..)
        · exact .inl rfl
      · exact .inr (List.mem_cons_of_mem _ g3)

/-- the set of digits as pages -/
def bitsP (s : Nat) : Int → Prop := fun x => ∃ k : Nat, x = k ∧ s.testBit k = true
theorem bits_pgs {n s : Nat} (hs : s < 2 ^ n) (x : Int) : bitsP s x ↔ x ∈ pgs n s := by
  rw [pgs_mem]
  constructor
  · rintro ⟨k, rfl, h⟩
    refine ⟨k, rfl, ?_, h⟩
    refine Classical.byContradiction fun e => ?_
    rw [bit_hi hs (by omega)] at h; cases h
  · rintro ⟨k, rfl, _, h⟩; exact ⟨k, rfl, h⟩
theorem bitsP_nat (s r : Nat) : bitsP s (r : Int) ↔ s.testBit r = true := by
  constructor
  · rintro ⟨k, h, h'⟩; have : k = r := by omega
    rw [← this]; exact h'
  · intro h; exact ⟨r, rfl, h⟩

theorem chs_no {k n s r : Nat} (hr : s.testBit r = false) (o : Int) : o ∈ chs k n s r ↔ (o = -1 ∧ szM s < k) ∨ o ∈ pgs n s := by
  unfold chs
  rw [hr]
  by_cases h : szM s < k <;> simp [h]
theorem szM_miss {n s r : Nat} (hs : s < 2 ^ n) (hr : r < n) (h : s.testBit r = false) : szM (s ||| 2 ^ r) ≤ szM s + 1 := by
  obtain ⟨h1, h2⟩ := or_bits hs hr
  rw [← pgs_len n _ h1, ← pgs_len n s hs]
  have := nodup_le (l := pgs n (s ||| 2 ^ r)) (m := (r : Int) :: pgs n s) (pgs_nodup _ _) (fun x hx => by
    rw [pgs_mem] at hx
    obtain ⟨k, rfl, hk, hb⟩ := hx
    rw [h2] at hb
    simp only [Bool.or_eq_true, beq_iff_eq] at hb
    rcases hb with hb | hb
    · exact List.mem_cons_of_mem _ ((pgs_mem _ _ _).2 ⟨k, rfl, hk, hb⟩)
    · subst hb; exact List.mem_cons_self ..)
  simpa using this
theorem szM_less {n s x : Nat} (hn : n ≤ 8) (hs : s < 2 ^ n) (hx : x < n) (h : s.testBit x = true) : szM (s - 2 ^ x) + 1 ≤ szM s := by
  obtain ⟨h1, _, h2⟩ := sub_bits hn hs hx h
  rw [← pgs_len n _ h1, ← pgs_len n s hs]
  have := nodup_le (l := (x : Int) :: pgs n (s - 2 ^ x)) (m := pgs n s) (List.nodup_cons.2 ⟨fun e => by
    rw [pgs_mem] at e
    obtain ⟨k, hk, _, hb⟩ := e
    have : k = x := by omega
    subst this
    rw [h2] at hb
    simp at hb, pgs_nodup _ _⟩) (fun y hy => by
    rcases List.mem_cons.1 hy with rfl | hy
    · exact (pgs_mem _ _ _).2 ⟨x, rfl, hx, h⟩
    · rw [pgs_mem] at hy ⊢
      obtain ⟨k, rfl, hk, hb⟩ := hy
      rw [h2] at hb
      simp only [Bool.and_eq_true] at hb
      exact ⟨k, rfl, hk, hb.1⟩)
  simpa using this
theorem testBit_nat (s r : Nat) : s.testBit r = true ∨ s.testBit r = false := by cases s.testBit r <;> simp

theorem aft_hit {n s r : Nat} (hs : s < 2 ^ n) (hr : r < n) (hb : s.testBit r = true) : aft s r (-1) = s := by
  unfold aft
  rw [if_neg (by omega)]
  apply Nat.eq_of_testBit_eq
  intro j
  rw [(or_bits hs hr).2]
  by_cases hj : j = r
  · subst hj; simp [hb]
  · simp [hj]
theorem aft_miss {k n s r : Nat} (hn : n ≤ 8) (hs : s < 2 ^ n) (hsz : szM s ≤ k) (hr : r < n) (hb : s.testBit r = false) (o : Int) (ho : o ∈ chs k n s r) :
    aft s r o < 2 ^ n ∧ szM (aft s r o) ≤ k ∧ ∀ x, bitsP (aft s r o) x ↔ ((bitsP s x ∧ x ≠ o) ∨ x = r) := by
  have hbf : ¬ (s.testBit r = true) := by rw [hb]; simp
  rw [chs_no hb] at ho
  rcases ho with ⟨rfl, hlt⟩ | ho
  · have h2 := szM_miss hs hr hb
    obtain ⟨g1, g2⟩ := or_bits hs hr
    have ha : aft s r (-1) = s ||| 2 ^ r := by unfold aft; rw [if_neg (by omega)]
    rw [ha]
    refine ⟨g1, by omega, fun x => ?_⟩
    constructor
    · rintro ⟨j, rfl, hj⟩
      rw [g2] at hj
      simp only [Bool.or_eq_true, beq_iff_eq] at hj
      rcases hj with hj | hj
      · exact .inl ⟨⟨j, rfl, hj⟩, by omega⟩
      · exact .inr (by rw [hj])
    · rintro (⟨⟨j, rfl, hj⟩, _⟩ | rfl)
      · exact ⟨j, rfl, by rw [g2, hj]; rfl⟩
      · exact ⟨r, rfl, by rw [g2]; simp⟩
  · rw [pgs_mem] at ho
    obtain ⟨y, rfl, hy, hyb⟩ := ho
    obtain ⟨f1, f2, f3⟩ := sub_bits hn hs hy hyb
    obtain ⟨g1, g2⟩ := or_bits f1 hr
    have ha : aft s r (y : Int) = (s - 2 ^ y) ||| 2 ^ r := by unfold aft; rw [if_pos (by omega)]; simp
    rw [ha]
    have hyr : y ≠ r := fun e => hbf (e ▸ hyb)
    have h0 : (s - 2 ^ y).testBit r = false := by rw [f3, hb]; rfl
    have h2 := szM_miss f1 hr h0
    have h3 := szM_less hn hs hy hyb
    refine ⟨g1, by omega, fun x => ?_⟩
    constructor
    · rintro ⟨j, rfl, hj⟩
      rw [g2, f3] at hj
      simp only [Bool.or_eq_true, Bool.and_eq_true, Bool.not_eq_true', beq_eq_false_iff_ne, beq_iff_eq] at hj
      rcases hj with hj | hj
      · exact .inl ⟨⟨j, rfl, hj.1⟩, by have := hj.2; omega⟩
      · exact .inr (by rw [hj])
    · rintro (⟨⟨j, rfl, hj⟩, hne⟩ | rfl)
      · refine ⟨j, rfl, ?_⟩
        have : j ≠ y := by omega
        rw [g2, f3, hj]; simp [this]
      · exact ⟨r, rfl, by rw [g2]; simp⟩
/-- the table's number is the least one -/
theorem dpM_spec {k n : Nat} (hk : 0 < k) (hn : n ≤ 8) (l : List Nat) : ∀ s, (∀ x ∈ l, x < n) → s < 2 ^ n → szM s ≤ k →
    0 ≤ dpM k n l s ∧ dpM k n l s ≤ l.length ∧ Sim k (l.map Int.ofNat) (bitsP s) (dpM k n l s).toNat ∧ ∀ c, Sim k (l.map Int.ofNat) (bitsP s) c → dpM k n l s ≤ c := by
  induction l with
  | nil => intro s _ _ _; exact ⟨by simp [dpM], by simp [dpM], by simp [dpM, Sim], fun c h => by simp [dpM]⟩
  | cons r l ih =>
    intro s hl hs hsz
    have hr : r < n := hl r (List.mem_cons_self ..)
    have hl' : ∀ x ∈ l, x < n := fun x hx => hl x (List.mem_cons_of_mem _ hx)
    have e : dpM k n (r :: l) s = leastM ((chs k n s r).map fun o => dpM k n l (aft s r o) + (if s.testBit r then 0 else 1)) (-1) := by rw [dpM, if_pos hsz]
    rcases testBit_nat s r with hb | hb
    · -- a hit
      have ha := aft_hit hs hr hb
      have e2 : dpM k n (r :: l) s = dpM k n l s := by
        rw [e]; unfold chs; rw [hb]
        simp [leastM, ha]
      obtain ⟨h0, h1, h2, h3⟩ := ih s hl' hs hsz
      rw [e2]
      refine ⟨h0, by simp only [List.length_cons]; omega, ?_, ?_⟩
      · refine ⟨bitsP s, (bitsP_nat s r).2 hb, fun x hx => .inl hx, ⟨pgs n s, by rw [pgs_len n s hs]; exact hsz, fun x hx => (bits_pgs hs x).1 hx⟩, _, h2, .inl ⟨(bitsP_nat s r).2 hb, rfl⟩⟩
      · rintro c ⟨S1, s1, s2, s3, c1, s4, s5⟩
        obtain ⟨c', g1, g2⟩ := sim_mono (S' := bitsP s) (fun x hx => (s2 x hx).elim id (fun e => by rw [e]; exact (bitsP_nat s r).2 hb)) s4
        have := h3 c' g2
        rcases s5 with ⟨_, e⟩ | ⟨e, _⟩
        · omega
        · exact absurd ((bitsP_nat s r).2 hb) e
    · -- a fault
      have hbf : ¬ (s.testBit r = true) := by rw [hb]; simp
      have hnr : ¬ bitsP s (r : Int) := fun h => hbf ((bitsP_nat s r).1 h)
      have hsub := aft_miss (k := k) hn hs hsz hr hb
      have hval : ∀ o ∈ chs k n s r, 0 ≤ dpM k n l (aft s r o) ∧ dpM k n l (aft s r o) ≤ l.length ∧ Sim k (l.map Int.ofNat) (bitsP (aft s r o)) (dpM k n l (aft s r o)).toNat ∧ ∀ c, Sim k (l.map Int.ofNat) (bitsP (aft s r o)) c → dpM k n l (aft s r o) ≤ c :=
        fun o ho => ih _ hl' (hsub o ho).1 (hsub o ho).2.1
      have hne : chs k n s r ≠ [] := fun e => by
        have hm : ∀ o, ¬ o ∈ chs k n s r := by rw [e]; simp
        by_cases hlt : szM s < k
        · exact hm (-1) ((chs_no hb _).2 (.inl ⟨rfl, hlt⟩))
        · have : 0 < (pgs n s).length := by rw [pgs_len n s hs]; omega
          obtain ⟨y, hy⟩ := List.exists_mem_of_length_pos this
          exact hm y ((chs_no hb _).2 (.inr hy))
      obtain ⟨_, m2, m3⟩ := leastM_spec ((chs k n s r).map fun o => dpM k n l (aft s r o) + 1) (-1) (fun x hx => by
        rw [List.mem_map] at hx
        obtain ⟨o, ho, rfl⟩ := hx
        have := (hval o ho).1
        omega)
      obtain ⟨m4, m5⟩ := m3 (.inr (by simpa using hne))
      have e3 : dpM k n (r :: l) s = leastM ((chs k n s r).map fun o => dpM k n l (aft s r o) + 1) (-1) := by rw [e]; simp [hb]
      rw [e3]
      have hin : leastM ((chs k n s r).map fun o => dpM k n l (aft s r o) + 1) (-1) ∈ (chs k n s r).map fun o => dpM k n l (aft s r o) + 1 := by
        rcases m5 with m5 | m5
        · rw [m5] at m4; omega
        · exact m5
      rw [List.mem_map] at hin
      obtain ⟨o, ho, heq⟩ := hin
      rw [← heq] at m2 ⊢
      obtain ⟨v0, v1, v2, v3⟩ := hval o ho
      obtain ⟨u1, u2, u3⟩ := hsub o ho
      refine ⟨by omega, by simp only [List.length_cons]; omega, ?_, ?_⟩
      · refine ⟨bitsP (aft s r o), (u3 _).2 (.inr rfl), fun x hx => ((u3 x).1 hx).imp (fun h => h.1) id, ⟨pgs n (aft s r o), by rw [pgs_len n _ u1]; exact u2, fun x hx => (bits_pgs u1 x).1 hx⟩, _, v2, .inr ⟨hnr, by omega⟩⟩
      · rintro c ⟨S1, s1, s2, s3, c1, s4, s5⟩
        have key : ∃ o' ∈ chs k n s r, ∀ x, S1 x → bitsP (aft s r o') x := by
          by_cases hlt : szM s < k
          · have hm : (-1 : Int) ∈ chs k n s r := (chs_no hb _).2 (.inl ⟨rfl, hlt⟩)
            refine ⟨-1, hm, fun x hx => ((hsub _ hm).2.2 x).2 ?_⟩
            rcases s2 x hx with h | h
            · exact .inl ⟨h, by obtain ⟨j, rfl, _⟩ := h; omega⟩
            · exact .inr h
          · obtain ⟨q, hq, hnq⟩ := fits_miss (cache := pgs n s) (r := (r : Int)) (pgs_nodup n s) (fun h => hnr ((bits_pgs hs _).2 h)) (by rw [pgs_len n s hs]; omega) s1 s3
            have hm : q ∈ chs k n s r := (chs_no hb _).2 (.inr hq)
            refine ⟨q, hm, fun x hx => ((hsub _ hm).2.2 x).2 ?_⟩
            rcases s2 x hx with h | h
            · exact .inl ⟨h, fun e => hnq (e ▸ hx)⟩
            · exact .inr h
        obtain ⟨o', ho', hS⟩ := key
        obtain ⟨c', g1, g2⟩ := sim_mono hS s4
        have h1 := (hval o' ho').2.2.2 c' g2
        have h2 := m2 _ (List.mem_map.2 ⟨o', ho', rfl⟩)
        rcases s5 with ⟨e, _⟩ | ⟨_, e⟩
        · exact absurd e hnr
        · omega

/-- the table's first number is that of the farthest next use -/
theorem dpM_fewest {k n : Nat} (hk : 0 < k) (hn : n ≤ 8) (l : List Nat) (hl : ∀ x ∈ l, x < n) : 0 ≤ dpM k n l 0 ∧ Fewest k (l.map Int.ofNat) (dpM k n l 0).toNat := by
  have e : bitsP 0 = (fun _ : Int => False) := by funext x; simp [bitsP]
  obtain ⟨h0, _, h1, h2⟩ := dpM_spec hk hn l 0 hl (Nat.two_pow_pos n) (by rw [szM_zero]; omega)
  unfold Fewest
  rw [← e]
  exact ⟨h0, h1, fun c hc => by have := h2 c hc; omega⟩
end Go.Proofs.YtdgcohoneijleaaGreat
