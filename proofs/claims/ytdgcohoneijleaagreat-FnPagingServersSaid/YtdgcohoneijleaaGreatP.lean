
/-
  Plain Lean: lists of numbers, and caches as step machines. No program in sight.
-/
namespace Go.Proofs.YtdgcohoneijleaaGreat

def inB (x a b : Int) : Bool := decide (a ≤ x) && decide (x ≤ b)
theorem inB_iff {x a b : Int} : inB x a b = true ↔ a ≤ x ∧ x ≤ b := by simp [inB]
def hasB (l : List Int) (n : Int) : Bool := l.contains n
theorem take_snoc (l : List Int) (k : Nat) (h : k < l.length) : l.take (k + 1) = l.take k ++ [l[k]] := by
  rw [List.take_succ_eq_append_getElem h]
theorem hasB_snoc (l : List Int) (n : Int) (k : Nat) (h : k < l.length) : hasB (l.take (k + 1)) n = (hasB (l.take k) n || l[k] == n) := by
  rw [take_snoc l k h]; simp only [hasB, List.contains_append, List.contains_cons, List.contains_nil, Bool.or_false, Bool.beq_comm]
def belowB (n : Int) (l : List Int) : Bool := l.all fun a => inB a 0 (n - 1)
/-- the first place of a number, -1 if it is not there -/
def atI (l : List Int) (n : Int) : Int := if n ∈ l then (l.idxOf n : Int) else -1
theorem atI_hit (l : List Int) (n : Int) (k : Nat) (h : k < l.length) (hk : l[k] = n) (hn : hasB (l.take k) n = false) : atI l n = k := by
  have hm : n ∈ l := hk ▸ List.getElem_mem h
  have hn' : n ∉ l.take k := by simpa [hasB] using hn
  rw [atI, if_pos hm]
  congr 1
  have hlt : l.idxOf n < l.length := List.idxOf_lt_length_of_mem hm
  have hget : l[l.idxOf n] = n := List.getElem_idxOf hlt
  rcases Nat.lt_trichotomy (l.idxOf n) k with hlt' | he | hgt
  · exact absurd (by rw [← hget]; exact List.mem_take_iff_getElem.2 ⟨l.idxOf n, by omega, rfl⟩) hn'
  · exact he
  · have h2 := List.not_of_lt_findIdx (p := (· == n)) (xs := l) (i := k) hgt
    simp [hk] at h2
theorem atI_none (l : List Int) (n : Int) (h : hasB l n = false) : atI l n = -1 := by
  have hn' : n ∉ l := by simpa [hasB] using h
  rw [atI, if_neg hn']
theorem atI_spec (l : List Int) (n : Int) : (hasB l n = true ∧ ∃ k : Nat, k < l.length ∧ atI l n = k) ∨ (hasB l n = false ∧ atI l n = -1) := by
  by_cases h : n ∈ l
  · left
    exact ⟨by simpa [hasB] using h, l.idxOf n, List.idxOf_lt_length_of_mem h, by rw [atI, if_pos h]⟩
  · right
    have hh : hasB l n = false := by simpa [hasB] using h
    exact ⟨hh, atI_none l n hh⟩

/-- the first place at which p holds, -1 if there is none -/
def idxF (l : List Int) (p : Int → Bool) : Int := if l.any p then (l.findIdx p : Int) else -1
theorem any_snoc (l : List Int) (p : Int → Bool) (k : Nat) (h : k < l.length) : (l.take (k + 1)).any p = ((l.take k).any p || p l[k]) := by
  rw [take_snoc l k h, List.any_append]; simp only [List.any_cons, List.any_nil, Bool.or_false]
theorem idxF_hit (l : List Int) (p : Int → Bool) (k : Nat) (h : k < l.length) (hk : p l[k] = true) (hn : (l.take k).any p = false) : idxF l p = k := by
  have ha : l.any p = true := List.any_eq_true.2 ⟨l[k], List.getElem_mem h, hk⟩
  rw [idxF, if_pos ha]
  congr 1
  rw [List.findIdx_eq h]
  refine ⟨hk, fun j hj => ?_⟩
  have := List.any_eq_false.1 hn l[j] (List.mem_take_iff_getElem.2 ⟨j, by omega, rfl⟩)
  simpa using this
theorem idxF_none (l : List Int) (p : Int → Bool) (h : l.any p = false) : idxF l p = -1 := by rw [idxF, h]; rfl
theorem idxF_ge (l : List Int) (p : Int → Bool) : decide (0 ≤ idxF l p) = l.any p := by
  cases h : l.any p
  · rw [idxF_none l p h]; rfl
  · rw [idxF, if_pos h]; simp
structure Ca where
  pol : Int
  size : Int
  pages : List Int
  marks : List Int
  hand : Int

/-- the last place of the least mark among the first k -/
def rareTo (m : List Int) : Nat → Nat
  | 0 => 0
  | k + 1 => if m.getD k 0 ≤ m.getD (rareTo m k) 0 then k else rareTo m k
def rarest (m : List Int) : Nat := rareTo m m.length
theorem rareTo_lt (m : List Int) (k : Nat) (hk : 0 < k) : rareTo m k < k := by
  induction k with
  | zero => omega
  | succ k ih =>
    unfold rareTo
    split
    · omega
    · rcases Nat.eq_zero_or_pos k with rfl | hp
      · simp [rareTo] at *
      · have := ih hp; omega
/-- the hand of a clock turns -/
def turn (sz : Nat) : Nat → List Int → Nat → List Int × Nat
  | 0, m, h => (m, h)
  | f + 1, m, h => if m.getD h 0 = 1 then turn sz f (m.set h 0) ((h + 1) % sz) else (m, h)
def turned (c : Ca) : List Int × Nat := turn c.size.toNat (c.marks.length + 1) c.marks c.hand.toNat

def hitC (c : Ca) (i : Nat) : Ca :=
  if c.pol = 1 ∨ c.pol = 7 then { c with pages := c.pages.getD i 0 :: c.pages.eraseIdx i }
  else if c.pol = 5 then { c with marks := c.marks.set i (min (c.marks.getD i 0 + 1) 60) }
  else if c.pol = 6 then { c with marks := c.marks.set i 1 }
  else c
def victim (c : Ca) : Nat :=
  if c.pol = 3 ∨ c.pol = 7 then 0 else if c.pol = 5 then rarest c.marks else if c.pol = 6 then (turned c).2 else c.pages.length - 1
def clockC (c : Ca) (x : Int) : Ca :=
  if (c.pages.length : Int) < c.size then { c with pages := c.pages ++ [x], marks := c.marks ++ [1] }
  else { c with pages := c.pages.set (turned c).2 x, marks := (turned c).1.set (turned c).2 1, hand := ((turned c).2 + 1 : Int) % c.size }
def faultC (c : Ca) (x : Int) : Ca :=
  if c.pol = 6 then clockC c x
  else
    { c with
      pages := x :: (if (c.pages.length : Int) = c.size then (if c.pol = 4 then [] else c.pages.eraseIdx (victim c)) else c.pages)
      marks := if c.pol = 5 then 1 :: (if (c.pages.length : Int) = c.size then c.marks.eraseIdx (victim c) else c.marks) else c.marks }
def stepC (c : Ca) (x : Int) : Ca := if hasB c.pages x then hitC c (atI c.pages x).toNat else faultC c x

def newC (p k : Int) : Ca := { pol := p, size := k, pages := [], marks := [], hand := 0 }

/-- what each cache is from its beginning on -/
structure Ok (c : Ca) : Prop where
  pol : 1 ≤ c.pol ∧ c.pol ≤ 7
  size : 1 ≤ c.size ∧ c.size ≤ 6
  len : (c.pages.length : Int) ≤ c.size
  marks : c.pol = 5 ∨ c.pol = 6 → c.marks.length = c.pages.length
  small : ∀ m ∈ c.marks, 0 ≤ m ∧ m ≤ 60
  hand : 0 ≤ c.hand ∧ c.hand < c.size

/-- one page, or all, taken out of a full cache -/
def outC (c : Ca) : Ca :=
  { c with
    pages := if c.pol = 4 then [] else c.pages.eraseIdx (victim c)
    marks := if c.pol = 5 then c.marks.eraseIdx (victim c) else c.marks }
theorem faultC_out (c : Ca) (x : Int) (h6 : c.pol ≠ 6) : faultC c x = { (if (c.pages.length : Int) = c.size then outC c else c) with
    pages := x :: (if (c.pages.length : Int) = c.size then outC c else c).pages
    marks := if c.pol = 5 then 1 :: (if (c.pages.length : Int) = c.size then outC c else c).marks else (if (c.pages.length : Int) = c.size then outC c else c).marks } := by
  unfold faultC
  rw [if_neg h6]
  by_cases hf : (c.pages.length : Int) = c.size
  · simp only [hf, if_true, outC]
    by_cases h5 : c.pol = 5 <;> simp [h5]
  · simp only [hf, if_false]
/-- the last place of the least mark, found from behind -/
def downTo (m : List Int) : Nat → Nat
  | 0 => m.length - 1
  | k + 1 => if m.getD (m.length - 1 - k) 0 < m.getD (downTo m k) 0 then m.length - 1 - k else downTo m k
theorem downTo_spec (m : List Int) (hm : 0 < m.length) (k : Nat) (hk : k ≤ m.length) : downTo m k < m.length ∧ (k = 0 ∨ m.length - k ≤ downTo m k) ∧
    (∀ i, m.length - k ≤ i → i < m.length → m.getD (downTo m k) 0 ≤ m.getD i 0) ∧ (∀ i, downTo m k < i → i < m.length → m.getD (downTo m k) 0 < m.getD i 0) := by
  induction k with
  | zero => exact ⟨by simp [downTo]; omega, .inl rfl, fun i h1 h2 => by omega, fun i h1 h2 => by simp [downTo] at h1; omega⟩
  | succ k ih =>
    obtain ⟨h1, h2, h3, h4⟩ := ih (by omega)
    unfold downTo
    split
    · rename_i hlt
      refine ⟨by omega, .inr (by omega), fun i hi1 hi2 => ?_, fun i hi1 hi2 => ?_⟩
      · rcases Nat.eq_or_lt_of_le hi1 with he | hg
        · have : i = m.length - 1 - k := by omega
          rw [this]; exact Int.le_refl _
        · have := h3 i (by omega) hi2; omega
      · have := h3 i (by omega) hi2; omega
    · rename_i hge
      rcases h2 with rfl | h2
      · have e : m.length - 1 - 0 = downTo m 0 := by simp [downTo]
        refine ⟨h1, .inr (by simp [downTo]), fun i hi1 hi2 => ?_, h4⟩
        have : i = downTo m 0 := by simp [downTo]; omega
        rw [this]; exact Int.le_refl _
      · refine ⟨h1, .inr (by omega), fun i hi1 hi2 => ?_, h4⟩
        rcases Nat.eq_or_lt_of_le hi1 with he | hg
        · have : i = m.length - 1 - k := by omega
          rw [this]; omega
        · exact h3 i (by omega) hi2
theorem rareTo_spec (m : List Int) (k : Nat) (hk : 0 < k) (hkm : k ≤ m.length) : rareTo m k < k ∧ (∀ i, i < k → m.getD (rareTo m k) 0 ≤ m.getD i 0) ∧ (∀ i, rareTo m k < i → i < k → m.getD (rareTo m k) 0 < m.getD i 0) := by
  induction k with
  | zero => omega
  | succ k ih =>
    rcases Nat.eq_zero_or_pos k with rfl | hp
    · refine ⟨by simp [rareTo], fun i hi => ?_, fun i h1 h2 => by omega⟩
      have : i = 0 := by omega
      subst this; simp [rareTo]
    · obtain ⟨h1, h2, h3⟩ := ih hp (by omega)
      unfold rareTo
      split
      · rename_i hle
        refine ⟨by omega, fun i hi => ?_, fun i h1 h2 => by omega⟩
        rcases Nat.eq_or_lt_of_le (Nat.le_of_lt_succ hi) with he | hl
        · rw [he]; exact Int.le_refl _
        · have := h2 i hl; omega
      · rename_i hgt
        refine ⟨by omega, fun i hi => ?_, fun i hi1 hi2 => ?_⟩
        · rcases Nat.eq_or_lt_of_le (Nat.le_of_lt_succ hi) with he | hl
          · rw [he]; omega
          · exact h2 i hl
        · rcases Nat.eq_or_lt_of_le (Nat.le_of_lt_succ hi2) with he | hl
          · rw [he]; omega
          · exact h3 i hi1 hl
theorem down_rarest (m : List Int) (hm : 0 < m.length) : downTo m m.length = rarest m := by
  obtain ⟨h1, h2, h3⟩ := rareTo_spec m m.length hm (Nat.le_refl _)
  obtain ⟨g1, _, g3, g4⟩ := downTo_spec m hm m.length (Nat.le_refl _)
  unfold rarest
  rcases Nat.lt_trichotomy (downTo m m.length) (rareTo m m.length) with h | h | h
  · have := g4 _ h h1
    have := h2 _ g1
    omega
  · exact h
  · have := h3 _ h g1
    have := g3 (rareTo m m.length) (by omega) h1
    omega

theorem ok_new {p k : Int} (hp : 1 ≤ p ∧ p ≤ 7) (hk : 1 ≤ k ∧ k ≤ 6) : Ok (newC p k) :=
  ⟨hp, hk, by simp [newC]; omega, by simp [newC], by simp [newC], by simp [newC]; omega⟩

theorem turn_props (sz : Nat) (hsz : 0 < sz) (f : Nat) : ∀ (m : List Int) (h : Nat), h < sz → (turn sz f m h).1.length = m.length ∧ (turn sz f m h).2 < sz ∧
    ((∀ x ∈ m, 0 ≤ x ∧ x ≤ 60) → ∀ x ∈ (turn sz f m h).1, 0 ≤ x ∧ x ≤ 60) := by
  induction f with
  | zero => intro m h hh; exact ⟨rfl, hh, fun h => h⟩
  | succ f ih =>
    intro m h hh
    unfold turn
    split
    · obtain ⟨h1, h2, h3⟩ := ih (m.set h 0) ((h + 1) % sz) (Nat.mod_lt _ hsz)
      refine ⟨by simpa using h1, h2, fun hm => h3 (fun x hx => ?_)⟩
      rcases List.mem_or_eq_of_mem_set hx with hx | rfl
      · exact hm x hx
      · omega
    · exact ⟨rfl, hh, fun h => h⟩

theorem mem_set {l : List Int} {i : Nat} {y : Int} {P : Int → Prop} (h : ∀ x ∈ l, P x) (hy : P y) : ∀ x ∈ l.set i y, P x := by
  intro x hx
  rcases List.mem_or_eq_of_mem_set hx with hx | rfl
  · exact h x hx
  · exact hy
theorem mem_erase {l : List Int} {i : Nat} {P : Int → Prop} (h : ∀ x ∈ l, P x) : ∀ x ∈ l.eraseIdx i, P x := fun x hx => h x (List.mem_of_mem_eraseIdx hx)
theorem getD_mem {l : List Int} {i : Nat} (h : i < l.length) : l.getD i 0 ∈ l := by
  rw [List.getD_eq_getElem?_getD, List.getElem?_eq_getElem h]; exact List.getElem_mem h

theorem ok_hit {c : Ca} (h : Ok c) (i : Nat) (hi : i < c.pages.length) : Ok (hitC c i) := by
  unfold hitC
  split
  · refine ⟨h.pol, h.size, ?_, ?_, h.small, h.hand⟩
    · have := h.len; simp [List.length_eraseIdx_of_lt hi]; omega
    · intro hp; rename_i hq; simp only at hp; omega
  · split
    · rename_i hq
      have hm := h.marks (.inl hq)
      refine ⟨h.pol, h.size, h.len, fun hp => by simpa using h.marks hp, mem_set h.small ?_, h.hand⟩
      have := h.small _ (getD_mem (l := c.marks) (i := i) (by omega))
      omega
    · split
      · exact ⟨h.pol, h.size, h.len, fun hp => by simpa using h.marks hp, mem_set h.small (by omega), h.hand⟩
      · exact h
theorem victim_lt {c : Ca} (h : Ok c) (hp : 0 < c.pages.length) (h6 : c.pol ≠ 6) : victim c < c.pages.length := by
  unfold victim
  split
  · exact hp
  · split
    · rename_i h5
      have := h.marks (.inl h5)
      have := rareTo_lt c.marks c.marks.length (by omega)
      unfold rarest; omega
    · omega
theorem ok_fault {c : Ca} (h : Ok c) (x : Int) : Ok (faultC c x) := by
  have hs := h.size
  have hl := h.len
  unfold faultC
  split
  · rename_i h6
    have hm := h.marks (.inr h6)
    unfold clockC
    split
    · refine ⟨h.pol, h.size, by simp; omega, fun _ => by simp; omega, ?_, h.hand⟩
      intro m hm
      rcases List.mem_append.1 hm with hm | hm
      · exact h.small m hm
      · simp at hm; omega
    · have hh := h.hand
      obtain ⟨t1, t2, t3⟩ := turn_props c.size.toNat (by omega) (c.marks.length + 1) c.marks c.hand.toNat (by omega)
      refine ⟨h.pol, h.size, by simpa using h.len, fun _ => by simp [turned, t1]; omega, mem_set (t3 h.small) (by omega), ?_⟩
      exact ⟨Int.emod_nonneg _ (by omega), Int.emod_lt_of_pos _ (by omega)⟩
  · rename_i h6
    by_cases hf : (c.pages.length : Int) = c.size
    · have hv := victim_lt h (by omega) h6
      refine ⟨h.pol, h.size, ?_, ?_, ?_, h.hand⟩
      · simp only [hf, if_true]
        split
        · simp; omega
        · rw [List.length_cons, List.length_eraseIdx_of_lt hv]; omega
      · intro hp
        have h5 : c.pol = 5 := hp.resolve_right h6
        have hm := h.marks (.inl h5)
        simp only [hf, h5, if_true]
        rw [if_neg (by omega), List.length_cons, List.length_cons, List.length_eraseIdx_of_lt hv, List.length_eraseIdx_of_lt (by omega), hm]
      · simp only [hf, if_true]
        split
        · intro m hm
          rcases List.mem_cons.1 hm with rfl | hm
          · omega
          · exact mem_erase h.small m hm
        · exact h.small
    · refine ⟨h.pol, h.size, ?_, ?_, ?_, h.hand⟩
      · simp only [hf, if_false]
        rw [List.length_cons]; omega
      · intro hp
        have h5 : c.pol = 5 := hp.resolve_right h6
        have hm := h.marks (.inl h5)
        simp only [hf, h5, if_true, if_false]
        rw [List.length_cons, List.length_cons, hm]
      · simp only [hf, if_false]
        split
        · intro m hm
          rcases List.mem_cons.1 hm with rfl | hm
          · omega
          · exact h.small m hm
        · exact h.small
theorem ok_step {c : Ca} (h : Ok c) (x : Int) : Ok (stepC c x) := by
  unfold stepC
  split
  · rename_i hh
    rcases atI_spec c.pages x with ⟨_, k, hk, he⟩ | ⟨hn, _⟩
    · rw [he]; exact ok_hit h _ (by simpa using hk)
    · rw [hn] at hh; cases hh
  · exact ok_fault h x

def runC (c : Ca) (l : List Int) : Ca := l.foldl stepC c
theorem runC_snoc (c : Ca) (l : List Int) (k : Nat) (h : k < l.length) : runC c (l.take (k + 1)) = stepC (runC c (l.take k)) l[k] := by
  unfold runC; rw [take_snoc l k h, List.foldl_append]; rfl
theorem ok_run {c : Ca} (h : Ok c) (l : List Int) : Ok (runC c l) := by
  induction l generalizing c with
  | nil => exact h
  | cons x l ih => exact ih (ok_step h x)
/-- the places of the faults among the first k requests -/
def placesTo (c : Ca) (l : List Int) : Nat → List Int
  | 0 => []
  | k + 1 => if hasB (runC c (l.take k)).pages (l.getD k 0) then placesTo c l k else placesTo c l k ++ [(k : Int)]
def places (c : Ca) (l : List Int) : List Int := placesTo c l l.length
theorem placesTo_le (c : Ca) (l : List Int) (k : Nat) : (placesTo c l k).length ≤ k := by
  induction k with
  | zero => simp [placesTo]
  | succ k ih =>
    unfold placesTo
    split
    · omega
    · rw [List.length_append]; simp only [List.length_cons, List.length_nil]; omega

end Go.Proofs.YtdgcohoneijleaaGreat
