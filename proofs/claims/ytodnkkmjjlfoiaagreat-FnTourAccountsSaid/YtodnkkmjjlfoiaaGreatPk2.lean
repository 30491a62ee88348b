import Derived.Test.YtodnkkmjjlfoiaaGreatBase
import Derived.Lib.Overlaps
import Derived.Lib.AppendZeros
import Derived.Laws.CopyOwn
import Derived.Lib.SliceRun
/-
  Plain Lean: lists of numbers, and caches as step machines. No program in sight.
-/
namespace Go.Proofs.YtodnkkmjjlfoiaaGreat

def inB (x a b : Int) : Bool := decide (a ≤ x) && decide (x ≤ b)
theorem inB_iff {x a b : Int} : inB x a b = true ↔ a ≤ x ∧ x ≤ b := by simp [inB]
def hasB (l : List Int) (n : Int) : Bool := l.contains n
theorem take_snoc (l : List Int) (k : Nat) (h : k < l.length) : l.take (k + 1) = l.take k ++ [l[k]] := by
  rw [List.take_succ_eq_append_getElem h]
theorem hasB_snoc (l : List Int) (n : Int) (k : Nat) (h : k < l.length) : hasB (l.take (k + 1)) n = (hasB (l.take k) n || l[k] == n) := by
  rw [take_snoc l k h]; simp only [hasB, List.contains_append, List.contains_cons, List.contains_nil, Bool.or_false, Bool.beq_comm]
def belowB (n : Int) (l : List Int) : Bool := l.all fun a => inB a 0 (n - 1)
theorem belowB_snoc (n : Int) (l : List Int) (k : Nat) (h : k < l.length) : belowB n (l.take (k + 1)) = (belowB n (l.take k) && inB l[k] 0 (n - 1)) := by
  unfold belowB; rw [take_snoc l k h, List.all_append]; simp only [List.all_cons, List.all_nil, Bool.and_true]
theorem belowB_stop (n : Int) (l : List Int) (k : Nat) (h : k < l.length) (hk : inB l[k] 0 (n - 1) = false) : belowB n l = false := by
  rw [belowB, List.all_eq_false]
  exact ⟨l[k], List.getElem_mem h, by simp [hk]⟩

/-- the first place of a number, -1 if it is not there -/
def atI (l : List Int) (n : Int) : Int := if n ∈ l then (l.idxOf n : Int) else -1
theorem atI_hit (l : List Int) (n : Int) (k : Nat) (h : k < l.length) (hk : l[k] = n) (hn : hasB (l.take k) n = false) : atI l n = k := by
  have hm : n ∈ l := hk ▸ List.getElem_mem h
  have hn' : n ∉ l.take k := by simpa [hasB] using hn
  rw [atI, if_pos hm]
  congr 1
  have hlt : l.idxOf n < l.length := List.idxOf_lt_length_of_mem hm
  have hget : l[l.idxOf n] = n := List.getElem_idxOf hlt
  rcases Nat.lt_trichotomy (l.idxOf n) k with hlt' | he | hgt
  · exact absurd (by rw [← hget]; exact List.mem_take_iff_getElem.2 ⟨l.idxOf n, by omega, rfl⟩) hn'
  · exact he
  · have h2 := List.not_of_lt_findIdx (p := (· == n)) (xs := l) (i := k) hgt
    simp [hk] at h2
theorem atI_none (l : List Int) (n : Int) (h : hasB l n = false) : atI l n = -1 := by
  have hn' : n ∉ l := by simpa [hasB] using h
  rw [atI, if_neg hn']
theorem atI_spec (l : List Int) (n : Int) : (hasB l n = true ∧ ∃ k : Nat, k < l.length ∧ atI l n = k) ∨ (hasB l n = false ∧ atI l n = -1) := by
  by_cases h : n ∈ l
  · left
    exact ⟨by simpa [hasB] using h, l.idxOf n, List.idxOf_lt_length_of_mem h, by rw [atI, if_pos h]⟩
  · right
    have hh : hasB l n = false := by simpa [hasB] using h
    exact ⟨hh, atI_none l n hh⟩

/-- the first place at which p holds, -1 if there is none -/
def idxF (l : List Int) (p : Int → Bool) : Int := if l.any p then (l.findIdx p : Int) else -1
theorem any_snoc (l : List Int) (p : Int → Bool) (k : Nat) (h : k < l.length) : (l.take (k + 1)).any p = ((l.take k).any p || p l[k]) := by
  rw [take_snoc l k h, List.any_append]; simp only [List.any_cons, List.any_nil, Bool.or_false]
theorem idxF_hit (l : List Int) (p : Int → Bool) (k : Nat) (h : k < l.length) (hk : p l[k] = true) (hn : (l.take k).any p = false) : idxF l p = k := by
  have ha : l.any p = true := List.any_eq_true.2 ⟨l[k], List.getElem_mem h, hk⟩
  rw [idxF, if_pos ha]
  congr 1
  rw [List.findIdx_eq h]
  refine ⟨hk, fun j hj => ?_⟩
  have := List.any_eq_false.1 hn l[j] (List.mem_take_iff_getElem.2 ⟨j, by omega, rfl⟩)
  simpa using this
theorem idxF_none (l : List Int) (p : Int → Bool) (h : l.any p = false) : idxF l p = -1 := by rw [idxF, h]; rfl
theorem idxF_ge (l : List Int) (p : Int → Bool) : decide (0 ≤ idxF l p) = l.any p := by
  cases h : l.any p
  · rw [idxF_none l p h]; rfl
  · rw [idxF, if_pos h]; simp
structure Ca where
  pol : Int
  size : Int
  pages : List Int
  marks : List Int
  hand : Int

/-- the last place of the least mark among the first k -/
def rareTo (m : List Int) : Nat → Nat
  | 0 => 0
  | k + 1 => if m.getD k 0 ≤ m.getD (rareTo m k) 0 then k else rareTo m k
def rarest (m : List Int) : Nat := rareTo m m.length
theorem rareTo_lt (m : List Int) (k : Nat) (hk : 0 < k) : rareTo m k < k := by
  induction k with
  | zero => omega
  | succ k ih =>
    unfold rareTo
    split
    · omega
    · rcases Nat.eq_zero_or_pos k with rfl | hp
      · simp [rareTo] at *
      · have := ih hp; omega
theorem rareTo_one (m : List Int) : rareTo m 1 = 0 := by simp [rareTo]

/-- the hand of a clock turns -/
def turn (sz : Nat) : Nat → List Int → Nat → List Int × Nat
  | 0, m, h => (m, h)
  | f + 1, m, h => if m.getD h 0 = 1 then turn sz f (m.set h 0) ((h + 1) % sz) else (m, h)
def turned (c : Ca) : List Int × Nat := turn c.size.toNat (c.marks.length + 1) c.marks c.hand.toNat

def hitC (c : Ca) (i : Nat) : Ca :=
  if c.pol = 1 ∨ c.pol = 7 then { c with pages := c.pages.getD i 0 :: c.pages.eraseIdx i }
  else if c.pol = 5 then { c with marks := c.marks.set i (min (c.marks.getD i 0 + 1) 60) }
  else if c.pol = 6 then { c with marks := c.marks.set i 1 }
  else c
def victim (c : Ca) : Nat :=
  if c.pol = 3 ∨ c.pol = 7 then 0 else if c.pol = 5 then rarest c.marks else if c.pol = 6 then (turned c).2 else c.pages.length - 1
def clockC (c : Ca) (x : Int) : Ca :=
  if (c.pages.length : Int) < c.size then { c with pages := c.pages ++ [x], marks := c.marks ++ [1] }
  else { c with pages := c.pages.set (turned c).2 x, marks := (turned c).1.set (turned c).2 1, hand := ((turned c).2 + 1 : Int) % c.size }
def faultC (c : Ca) (x : Int) : Ca :=
  if c.pol = 6 then clockC c x
  else
    { c with
      pages := x :: (if (c.pages.length : Int) = c.size then (if c.pol = 4 then [] else c.pages.eraseIdx (victim c)) else c.pages)
      marks := if c.pol = 5 then 1 :: (if (c.pages.length : Int) = c.size then c.marks.eraseIdx (victim c) else c.marks) else c.marks }
def stepC (c : Ca) (x : Int) : Ca := if hasB c.pages x then hitC c (atI c.pages x).toNat else faultC c x

def newC (p k : Int) : Ca := { pol := p, size := k, pages := [], marks := [], hand := 0 }

/-- what each cache is from its beginning on -/
structure Ok (c : Ca) : Prop where
  pol : 1 ≤ c.pol ∧ c.pol ≤ 7
  size : 1 ≤ c.size ∧ c.size ≤ 6
  len : (c.pages.length : Int) ≤ c.size
  marks : c.pol = 5 ∨ c.pol = 6 → c.marks.length = c.pages.length
  small : ∀ m ∈ c.marks, 0 ≤ m ∧ m ≤ 60
  hand : 0 ≤ c.hand ∧ c.hand < c.size

/-- one page, or all, taken out of a full cache -/
def outC (c : Ca) : Ca :=
  { c with
    pages := if c.pol = 4 then [] else c.pages.eraseIdx (victim c)
    marks := if c.pol = 5 then c.marks.eraseIdx (victim c) else c.marks }
theorem faultC_out (c : Ca) (x : Int) (h6 : c.pol ≠ 6) : faultC c x = { (if (c.pages.length : Int) = c.size then outC c else c) with
    pages := x :: (if (c.pages.length : Int) = c.size then outC c else c).pages
    marks := if c.pol = 5 then 1 :: (if (c.pages.length : Int) = c.size then outC c else c).marks else (if (c.pages.length : Int) = c.size then outC c else c).marks } := by
  unfold faultC
  rw [if_neg h6]
  by_cases hf : (c.pages.length : Int) = c.size
  · simp only [hf, if_true, outC]
    by_cases h5 : c.pol = 5 <;> simp [h5]
  · simp only [hf, if_false]
/-- the last place of the least mark, found from behind -/
def downTo (m : List Int) : Nat → Nat
  | 0 => m.length - 1
  | k + 1 => if m.getD (m.length - 1 - k) 0 < m.getD (downTo m k) 0 then m.length - 1 - k else downTo m k
theorem downTo_spec (m : List Int) (hm : 0 < m.length) (k : Nat) (hk : k ≤ m.length) : downTo m k < m.length ∧ (k = 0 ∨ m.length - k ≤ downTo m k) ∧
    (∀ i, m.length - k ≤ i → i < m.length → m.getD (downTo m k) 0 ≤ m.getD i 0) ∧ (∀ i, downTo m k < i → i < m.length → m.getD (downTo m k) 0 < m.getD i 0) := by
  induction k with
  | zero => exact ⟨by simp [downTo]; omega, .inl rfl, fun i h1 h2 => by omega, fun i h1 h2 => by simp [downTo] at h1; omega⟩
  | succ k ih =>
    obtain ⟨h1, h2, h3, h4⟩ := ih (by omega)
    unfold downTo
    split
    · rename_i hlt
      refine ⟨by omega, .inr (by omega), fun i hi1 hi2 => ?_, fun i hi1 hi2 => ?_⟩
      · rcases Nat.eq_or_lt_of_le hi1 with he | hg
        · have : i = m.length - 1 - k := by omega
          rw [this]; exact Int.le_refl _
        · have := h3 i (by omega) hi2; omega
      · have := h3 i (by omega) hi2; omega
    · rename_i hge
      rcases h2 with rfl | h2
      · have e : m.length - 1 - 0 = downTo m 0 := by simp [downTo]
        refine ⟨h1, .inr (by simp [downTo]), fun i hi1 hi2 => ?_, h4⟩
        have : i = downTo m 0 := by simp [downTo]; omega
        rw [this]; exact Int.le_refl _
      · refine ⟨h1, .inr (by omega), fun i hi1 hi2 => ?_, h4⟩
        rcases Nat.eq_or_lt_of_le hi1 with he | hg
        · have : i = m.length - 1 - k := by omega
          rw [this]; omega
        · exact h3 i (by omega) hi2
theorem rareTo_spec (m : List Int) (k : Nat) (hk : 0 < k) (hkm : k ≤ m.length) : rareTo m k < k ∧ (∀ i, i < k → m.getD (rareTo m k) 0 ≤ m.getD i 0) ∧ (∀ i, rareTo m k < i → i < k → m.getD (rareTo m k) 0 < m.getD i 0) := by
  induction k with
  | zero => omega
  | succ k ih =>
    rcases Nat.eq_zero_or_pos k with rfl | hp
    · refine ⟨by simp [rareTo], fun i hi => ?_, fun i h1 h2 => by omega⟩
      have : i = 0 := by omega
      subst this; simp [rareTo]
    · obtain ⟨h1, h2, h3⟩ := ih hp (by omega)
      unfold rareTo
      split
      · rename_i hle
        refine ⟨by omega, fun i hi => ?_, fun i h1 h2 => by omega⟩
        rcases Nat.eq_or_lt_of_le (Nat.le_of_lt_succ hi) with he | hl
        · rw [he]; exact Int.le_refl _
        · have := h2 i hl; omega
      · rename_i hgt
        refine ⟨by omega, fun i hi => ?_, fun i hi1 hi2 => ?_⟩
        · rcases Nat.eq_or_lt_of_le (Nat.le_of_lt_succ hi) with he | hl
          · rw [he]; omega
          · exact h2 i hl
        · rcases Nat.eq_or_lt_of_le (Nat.le_of_lt_succ hi2) with he | hl
          · rw [he]; omega
          · exact h3 i hi1 hl
theorem down_rarest (m : List Int) (hm : 0 < m.length) : downTo m m.length = rarest m := by
  obtain ⟨h1, h2, h3⟩ := rareTo_spec m m.length hm (Nat.le_refl _)
  obtain ⟨g1, _, g3, g4⟩ := downTo_spec m hm m.length (Nat.le_refl _)
  unfold rarest
  rcases Nat.lt_trichotomy (downTo m m.length) (rareTo m m.length) with h | h | h
  · have := g4 _ h h1
    have := h2 _ g1
    omega
  · exact h
  · have := h3 _ h g1
    have := g3 (rareTo m m.length) (by omega) h1
    omega

theorem ok_new {p k : Int} (hp : 1 ≤ p ∧ p ≤ 7) (hk : 1 ≤ k ∧ k ≤ 6) : Ok (newC p k) :=
  ⟨hp, hk, by simp [newC]; omega, by simp [newC], by simp [newC], by simp [newC]; omega⟩

theorem turn_props (sz : Nat) (hsz : 0 < sz) (f : Nat) : ∀ (m : List Int) (h : Nat), h < sz → (turn sz f m h).1.length = m.length ∧ (turn sz f m h).2 < sz ∧
    ((∀ x ∈ m, 0 ≤ x ∧ x ≤ 60) → ∀ x ∈ (turn sz f m h).1, 0 ≤ x ∧ x ≤ 60) := by
  induction f with
  | zero => intro m h hh; exact ⟨rfl, hh, fun h => h⟩
  | succ f ih =>
    intro m h hh
    unfold turn
    split
    · obtain ⟨h1, h2, h3⟩ := ih (m.set h 0) ((h + 1) % sz) (Nat.mod_lt _ hsz)
      refine ⟨by simpa using h1, h2, fun hm => h3 (fun x hx => ?_)⟩
      rcases List.mem_or_eq_of_mem_set hx with hx | rfl
      · exact hm x hx
      · omega
    · exact ⟨rfl, hh, fun h => h⟩

theorem mem_set {l : List Int} {i : Nat} {y : Int} {P : Int → Prop} (h : ∀ x ∈ l, P x) (hy : P y) : ∀ x ∈ l.set i y, P x := by
  intro x hx
  rcases List.mem_or_eq_of_mem_set hx with hx | rfl
  · exact h x hx
  · exact hy
theorem mem_erase {l : List Int} {i : Nat} {P : Int → Prop} (h : ∀ x ∈ l, P x) : ∀ x ∈ l.eraseIdx i, P x := fun x hx => h x (List.mem_of_mem_eraseIdx hx)
theorem getD_mem {l : List Int} {i : Nat} (h : i < l.length) : l.getD i 0 ∈ l := by
  rw [List.getD_eq_getElem?_getD, List.getElem?_eq_getElem h]; exact List.getElem_mem h

theorem ok_hit {c : Ca} (h : Ok c) (i : Nat) (hi : i < c.pages.length) : Ok (hitC c i) := by
  unfold hitC
  split
  · refine ⟨h.pol, h.size, ?_, ?_, h.small, h.hand⟩
    · have := h.len; simp [List.length_eraseIdx_of_lt hi]; omega
    · intro hp; rename_i hq; simp only at hp; omega
  · split
    · rename_i hq
      have hm := h.marks (.inl hq)
      refine ⟨h.pol, h.size, h.len, fun hp => by simpa using h.marks hp, mem_set h.small ?_, h.hand⟩
      have := h.small _ (getD_mem (l := c.marks) (i := i) (by omega))
      omega
    · split
      · exact ⟨h.pol, h.size, h.len, fun hp => by simpa using h.marks hp, mem_set h.small (by omega), h.hand⟩
      · exact h
theorem victim_lt {c : Ca} (h : Ok c) (hp : 0 < c.pages.length) (h6 : c.pol ≠ 6) : victim c < c.pages.length := by
  unfold victim
  split
  · exact hp
  · split
    · rename_i h5
      have := h.marks (.inl h5)
      have := rareTo_lt c.marks c.marks.length (by omega)
      unfold rarest; omega
    · omega
theorem ok_fault {c : Ca} (h : Ok c) (x : Int) : Ok (faultC c x) := by
  have hs := h.size
  have hl := h.len
  unfold faultC
  split
  · rename_i h6
    have hm := h.marks (.inr h6)
    unfold clockC
    split
    · refine ⟨h.pol, h.size, by simp; omega, fun _ => by simp; omega, ?_, h.hand⟩
      intro m hm
      rcases List.mem_append.1 hm with hm | hm
      · exact h.small m hm
      · simp at hm; omega
    · have hh := h.hand
      obtain ⟨t1, t2, t3⟩ := turn_props c.size.toNat (by omega) (c.marks.length + 1) c.marks c.hand.toNat (by omega)
      refine ⟨h.pol, h.size, by simpa using h.len, fun _ => by simp [turned, t1]; omega, mem_set (t3 h.small) (by omega), ?_⟩
      exact ⟨Int.emod_nonneg _ (by omega), Int.emod_lt_of_pos _ (by omega)⟩
  · rename_i h6
    by_cases hf : (c.pages.length : Int) = c.size
    · have hv := victim_lt h (by omega) h6
      refine ⟨h.pol, h.size, ?_, ?_, ?_, h.hand⟩
      · simp only [hf, if_true]
        split
        · simp; omega
        · rw [List.length_cons, List.length_eraseIdx_of_lt hv]; omega
      · intro hp
        have h5 : c.pol = 5 := hp.resolve_right h6
        have hm := h.marks (.inl h5)
        simp only [hf, h5, if_true]
        rw [if_neg (by omega), List.length_cons, List.length_cons, List.length_eraseIdx_of_lt hv, List.length_eraseIdx_of_lt (by omega), hm]
      · simp only [hf, if_true]
        split
        · intro m hm
          rcases List.mem_cons.1 hm with rfl | hm
          · omega
          · exact mem_erase h.small m hm
        · exact h.small
    · refine ⟨h.pol, h.size, ?_, ?_, ?_, h.hand⟩
      · simp only [hf, if_false]
        rw [List.length_cons]; omega
      · intro hp
        have h5 : c.pol = 5 := hp.resolve_right h6
        have hm := h.marks (.inl h5)
        simp only [hf, h5, if_true, if_false]
        rw [List.length_cons, List.length_cons, hm]
      · simp only [hf, if_false]
        split
        · intro m hm
          rcases List.mem_cons.1 hm with rfl | hm
          · omega
          · exact h.small m hm
        · exact h.small
theorem ok_step {c : Ca} (h : Ok c) (x : Int) : Ok (stepC c x) := by
  unfold stepC
  split
  · rename_i hh
    rcases atI_spec c.pages x with ⟨_, k, hk, he⟩ | ⟨hn, _⟩
    · rw [he]; exact ok_hit h _ (by simpa using hk)
    · rw [hn] at hh; cases hh
  · exact ok_fault h x

def runC (c : Ca) (l : List Int) : Ca := l.foldl stepC c
theorem runC_snoc (c : Ca) (l : List Int) (k : Nat) (h : k < l.length) : runC c (l.take (k + 1)) = stepC (runC c (l.take k)) l[k] := by
  unfold runC; rw [take_snoc l k h, List.foldl_append]; rfl
theorem ok_run {c : Ca} (h : Ok c) (l : List Int) : Ok (runC c l) := by
  induction l generalizing c with
  | nil => exact h
  | cons x l ih => exact ih (ok_step h x)
/-- the places of the faults among the first k requests -/
def placesTo (c : Ca) (l : List Int) : Nat → List Int
  | 0 => []
  | k + 1 => if hasB (runC c (l.take k)).pages (l.getD k 0) then placesTo c l k else placesTo c l k ++ [(k : Int)]
def places (c : Ca) (l : List Int) : List Int := placesTo c l l.length
theorem placesTo_le (c : Ca) (l : List Int) (k : Nat) : (placesTo c l k).length ≤ k := by
  induction k with
  | zero => simp [placesTo]
  | succ k ih =>
    unfold placesTo
    split
    · omega
    · rw [List.length_append]; simp only [List.length_cons, List.length_nil]; omega

end Go.Proofs.YtodnkkmjjlfoiaaGreat

namespace Go.Proofs.YtodnkkmjjlfoiaaGreat
open Go.RowKit

set_option maxHeartbeats 400000 in
theorem l1In_any (x a b : Int) (w : World) :
    Calls Tryz.prog 82 #[.int .i64 x, .int .i64 a, .int .i64 b] w fun e w' => e = .returned (.bool (inB x a b)) ∧ w = w' := by
  by_cases h1 : a ≤ x <;> by_cases h2 : x ≤ b
  all_goals
    have H : Hid (inB x a b = (decide (a ≤ x) && decide (x ≤ b))) := rfl
    go_enter Tryz.func82, Tryz.ntmps82
    go_wp2
    go_ret
    exact ⟨ret_bool (by rw [H.out]; simp [h1, h2]), rfl⟩

set_option maxHeartbeats 400000 in
theorem l3Items_any (x : Int) (w : World) :
    Calls Tryz.prog 126 #[.int .i64 x] w fun e w' => e = .returned (.bool (inB x 1 8)) ∧ w = w' := by
  go_enter Tryz.func126, Tryz.ntmps126
  go_wp2_with (go_at_call 82; refine (l1In_any _ _ _ _).mono ?_; rintro e w' ⟨rfl, rfl⟩)
  go_ret
  exact ⟨rfl, rfl⟩

set_option maxHeartbeats 400000 in
theorem l4Sizes_any (x y : Int) (w : World) :
    Calls Tryz.prog 81 #[.int .i64 x, .int .i64 y] w fun e w' => e = .returned (.bool (inB x 1 7 && inB y 1 6)) ∧ w = w' := by
  go_enter Tryz.func81, Tryz.ntmps81
  go_wp2_with (go_at_call 82; refine (l1In_any _ _ _ _).mono ?_; rintro e w' ⟨rfl, rfl⟩)
  all_goals go_ret
  all_goals exact ⟨ret_bool (by simp [*]), rfl⟩

set_option maxHeartbeats 400000 in
theorem l1Has_any (A : Nat → Prop) (v : Value) (l : List Int) (n : Int) (w : World) (h : RI A w v l) :
    Calls Tryz.prog 120 #[v, .int .i64 n] w fun e w' => e = .returned (.bool (hasB l n)) ∧ w = w' := by
  obtain ⟨a, cap, rfl, hcap, hmax, hlen, _, hc⟩ := h
  go_enter Tryz.func120, Tryz.ntmps120
  go_wp2
  go_loop [4, 5] (fun r i => ∃ k : Nat, k ≤ l.length ∧ i = .int .i64 k ∧ r = .bool false ∧ hasB (l.take k) n = false) (fun _ i => l.length - (intOf i).toNat)
  case atStart => exact ⟨0, Nat.zero_le _, rfl, rfl, rfl⟩
  case round =>
    obtain ⟨k, hk, rfl, rfl, hh⟩ := hrel
    have H := Lib.hid hh
    clear hh
    by_cases hlt : k < l.length
    · obtain ⟨b, off, rfl, _, _, hcell⟩ := hc (by intro e; simp [e] at hlt)
      have hck := hcell k hlt
      have hs := Lib.hid (hasB_snoc l n k hlt)
      go_wp2
      · go_ret
        have h : (l[k] == n) = true := by assumption
        have h1 : hasB l n = true := by
          unfold hasB
          rw [List.contains_iff_mem, ← beq_iff_eq.1 h]
          exact List.getElem_mem hlt
        exact ⟨ret_bool h1.symm, rfl⟩
      · have h : (l[k] == n) = false := by assumption
        go_round
        case rel => exact ⟨k + 1, by omega, by go_num, rfl, by rw [hs.out, H.out, h]; rfl⟩
        case measure => simp [intOf]; omega
    · have hkl : k = l.length := by omega
      go_wp2
      go_ret
      subst hkl
      exact ⟨ret_bool (by have := H.out; rw [List.take_length] at this; exact this.symm), rfl⟩

set_option maxHeartbeats 400000 in
theorem l3List_any (A : Nat → Prop) (v : Value) (l : List Int) (n : Int) (w : World) (h : RI A w v l) (hn : -9223372036854775807 ≤ n) (hn' : n ≤ 9223372036854775807) :
    Calls Tryz.prog 127 #[.int .i64 n, v] w fun e w' => e = .returned (.bool (belowB n l)) ∧ w = w' := by
  obtain ⟨a, cap, rfl, hcap, hmax, hlen, _, hc⟩ := h
  go_enter Tryz.func127, Tryz.ntmps127
  go_wp2
  go_loop [4, 5] (fun r i => ∃ k : Nat, k ≤ l.length ∧ i = .int .i64 k ∧ r = .bool false ∧ belowB n (l.take k) = true) (fun _ i => l.length - (intOf i).toNat)
  case atStart => exact ⟨0, Nat.zero_le _, rfl, rfl, rfl⟩
  case round =>
    obtain ⟨k, hk, rfl, rfl, hh⟩ := hrel
    have H := Lib.hid hh
    clear hh
    by_cases hlt : k < l.length
    · obtain ⟨b, off, rfl, _, _, hcell⟩ := hc (by intro e; simp [e] at hlt)
      have hck := hcell k hlt
      have hs := Lib.hid (belowB_snoc n l k hlt)
      have ht := Lib.hid (belowB_stop n l k hlt)
      go_wp2_with (go_at_call 82; refine (l1In_any _ _ _ _).mono ?_; rintro e w' ⟨rfl, rfl⟩)
      · go_ret
        have h : (!inB l[k] 0 (n - 1)) = true := by assumption
        have h : inB l[k] 0 (n - 1) = false := by simpa using h
        exact ⟨ret_bool (ht.out h).symm, rfl⟩
      · have h : (!inB l[k] 0 (n - 1)) = false := by assumption
        have h : inB l[k] 0 (n - 1) = true := by simpa using h
        go_round
        case rel => exact ⟨k + 1, by omega, by go_num, rfl, by rw [hs.out, H.out, h]; rfl⟩
        case measure => simp [intOf]; omega
    · have hkl : k = l.length := by omega
      go_wp2
      go_ret
      subst hkl
      exact ⟨ret_bool (by have := H.out; rw [List.take_length] at this; exact this.symm), rfl⟩

set_option maxHeartbeats 400000 in
theorem l3Good_any (A : Nat → Prop) (v : Value) (l : List Int) (n : Int) (w : World) (h : RI A w v l) :
    Calls Tryz.prog 77 #[.int .i64 n, v] w fun e w' => e = .returned (.bool (inB n 1 8 && decide (l.length ≤ 60) && belowB n l)) ∧ w = w' := by
  have h' := h
  obtain ⟨a, cap, rfl, hcap, hmax, hlen, _, hc⟩ := h
  go_enter Tryz.func77, Tryz.ntmps77
  by_cases h8 : inB n 1 8 = true
  · have hb := inB_iff.1 h8
    by_cases h60 : l.length ≤ 60
    · go_wp2_with (first | (go_at_call 126; refine (l3Items_any _ _).mono ?_; rintro e w' ⟨rfl, rfl⟩) | (go_at_call 127; refine (l3List_any _ _ _ _ _ h' (by omega) (by omega)).mono ?_; rintro e w' ⟨rfl, rfl⟩))
      go_ret
      exact ⟨ret_bool (by simp [*]), rfl⟩
    · go_wp2_with (first | (go_at_call 126; refine (l3Items_any _ _).mono ?_; rintro e w' ⟨rfl, rfl⟩) | (go_at_call 127; refine (l3List_any _ _ _ _ _ h' (by omega) (by omega)).mono ?_; rintro e w' ⟨rfl, rfl⟩))
      go_ret
      exact ⟨ret_bool (by simp [*]), rfl⟩
  · have h8 : inB n 1 8 = false := by simpa using h8
    go_wp2_with (first | (go_at_call 126; refine (l3Items_any _ _).mono ?_; rintro e w' ⟨rfl, rfl⟩) | (go_at_call 127; refine (l3List_any _ _ _ _ _ h' (by omega) (by omega)).mono ?_; rintro e w' ⟨rfl, rfl⟩))
    go_ret
    exact ⟨ret_bool (by simp [*]), rfl⟩

set_option maxHeartbeats 400000 in
theorem l1Own_any (A : Nat → Prop) (v : Value) (l : List Int) (w : World) (h : RI A w v l) :
    Calls Tryz.prog 79 #[v] w (Ret fun v' w' => OI w.heap.size w' v' l ∧ Chg No w w') := by
  go_enter Tryz.func79, Tryz.ntmps79
  have hL := h.len
  go_wp2_with (at_builtin; refine wapp rfl (.tmp 3) (.tmp 4) rfl (OI.zero (Nat.le_refl w.heap.size)) ((h.weak (fun _ hk _ => hk.elim)).keep ((Chg.refl No w).alloc _)) rfl rfl (by simpa using hL) (by simp) ?_; intro v1 w1 h1 h2 h3)
  go_ret
  exact ⟨_, rfl, by simpa using h1, ((Chg.refl No w).alloc _).own h2 (OI.zero (Nat.le_refl _)) (Nat.le_refl _)⟩

set_option maxHeartbeats 400000 in
theorem l4Front_any (A : Nat → Prop) (v : Value) (l : List Int) (n : Int) (w : World) (h : RI A w v l) (hl : l.length < 17592186044416) :
    Calls Tryz.prog 173 #[v, .int .i64 n] w (Ret fun v' w' => OI w.heap.size w' v' (n :: l) ∧ Chg No w w') := by
  go_enter Tryz.func173, Tryz.ntmps173
  go_wp2_with (at_builtin; refine wapp rfl (.tmp 6) (.tmp 7) rfl (OI.one (Nat.le_refl w.heap.size)) ((h.weak (fun _ hk _ => hk.elim)).keep ((Chg.refl No w).alloc _)) rfl rfl (by simp; omega) (by simp) ?_; intro v1 w1 h1 h2 h3)
  go_ret
  exact ⟨_, rfl, by simpa using h1, ((Chg.refl No w).alloc _).own h2 (OI.one (Nat.le_refl _)) (Nat.le_refl _)⟩

set_option maxRecDepth 100000 in
set_option maxHeartbeats 400000 in
theorem l4Without_any (A : Nat → Prop) (v : Value) (l : List Int) (i : Nat) (w : World) (h : RI A w v l) (hi : i < l.length) :
    Calls Tryz.prog 174 #[v, .int .i64 i] w (Ret fun v' w' => OI w.heap.size w' v' (l.eraseIdx i) ∧ Chg No w w') := by
  obtain ⟨a, cap, rfl, hcap, hmax, hlen, h0, hc⟩ := id h
  obtain ⟨x1, hx1, hR1⟩ := h.upto i _ rfl (by omega)
  obtain ⟨x2, hx2, hR2⟩ := h.from (i + 1) ((i : Int) + 1) (by omega) (by omega)
  have hw : IntKind.i64.wrap ((i : Int) + 1) = (i : Int) + 1 := IntWalk.i64_in _ (by omega)
  go_enter Tryz.func174, Tryz.ntmps174
  go_wp2_with fail
  go_region_held3 (fun w' => Hid True) (exact trivial) (first | (go_at_call 79; refine (l1Own_any A _ (l.take i) _ (hR1.keep (Chg.refl No w).drew)).mono ?_; rintro e w1 ⟨v1, rfl, h1, h2⟩) | (refine sapp rfl (.tmp 8) (.tmp 12) rfl h1 ((hR2.weak (fun _ hk _ => hk.elim)).keep ((Chg.refl No w).drew.keep h2)) rfl rfl (by simp; omega) h2.size ?_; intro v2 w2 h3 h4 h5))
  go_wp2
  go_ret
  exact ⟨_, rfl, by rw [List.eraseIdx_eq_take_drop_succ]; exact h3, ((Chg.refl No w).drew.keep h2).own h4 h1 (Nat.le_refl _)⟩

set_option maxHeartbeats 400000 in
theorem l4With_any (A : Nat → Prop) (v : Value) (l : List Int) (i : Nat) (x : Int) (w : World) (h : RI A w v l) (hi : i < l.length) :
    Calls Tryz.prog 175 #[v, .int .i64 i, .int .i64 x] w (Ret fun v' w' => OI w.heap.size w' v' (l.set i x) ∧ Chg No w w') := by
  go_enter Tryz.func175, Tryz.ntmps175
  go_wp2_with fail
  refine (l1Own_any A v l w h).mono ?_
  rintro e w1 ⟨v1, rfl, h1, h2⟩
  obtain ⟨a, cap, rfl, hcap, hmax, hv⟩ := h1.view
  obtain ⟨g, rfl, hg1, hg2, hcell, hfr⟩ := hv (by omega)
  have hc := hcell i hi
  have hf := hfr i
  obtain ⟨h3, h4⟩ := h1.store i x
  go_wp2
  go_ret
  exact ⟨_, rfl, h3, h2.step h4 (fun k hk hl => by omega)⟩

set_option maxHeartbeats 400000 in
theorem l1Least_any (a b : Int) (w : World) :
    Calls Tryz.prog 145 #[.int .i64 a, .int .i64 b] w fun e w' => e = .returned (.int .i64 (min a b)) ∧ w = w' := by
  by_cases h : a < b
  all_goals
    go_enter Tryz.func145, Tryz.ntmps145
    go_wp2
    go_ret
    exact ⟨ret_int (by omega), rfl⟩
end Go.Proofs.YtodnkkmjjlfoiaaGreat

namespace Go.Proofs.YtodnkkmjjlfoiaaGreat
open Go.RowKit

set_option maxHeartbeats 400000 in
theorem within_any (x a b : Int) (w : World) :
    Calls Tryz.prog 90 #[.int .i64 x, .int .i64 a, .int .i64 b] w fun e w' => e = .returned (.bool (inB x a b)) ∧ w = w' := by
  by_cases h1 : a ≤ x <;> by_cases h2 : x ≤ b
  all_goals
    have H : Hid (inB x a b = (decide (a ≤ x) && decide (x ≤ b))) := rfl
    go_enter Tryz.func90, Tryz.ntmps90
    go_wp2
    go_ret
    exact ⟨ret_bool (by rw [H.out]; simp [h1, h2]), rfl⟩

set_option maxHeartbeats 400000 in
theorem isItems_any (x : Int) (w : World) :
    Calls Tryz.prog 136 #[.int .i64 x] w fun e w' => e = .returned (.bool (inB x 1 8)) ∧ w = w' := by
  go_enter Tryz.func136, Tryz.ntmps136
  go_wp2_with (go_at_call 90; refine (within_any _ _ _ _).mono ?_; rintro e w' ⟨rfl, rfl⟩)
  go_ret
  exact ⟨rfl, rfl⟩

set_option maxHeartbeats 400000 in
theorem isPolicy_any (x : Int) (w : World) :
    Calls Tryz.prog 91 #[.int .i64 x] w fun e w' => e = .returned (.bool (inB x 1 7)) ∧ w = w' := by
  go_enter Tryz.func91, Tryz.ntmps91
  go_wp2_with (go_at_call 90; refine (within_any _ _ _ _).mono ?_; rintro e w' ⟨rfl, rfl⟩)
  go_ret
  exact ⟨rfl, rfl⟩

set_option maxHeartbeats 400000 in
theorem isSize_any (x : Int) (w : World) :
    Calls Tryz.prog 92 #[.int .i64 x] w fun e w' => e = .returned (.bool (inB x 1 6)) ∧ w = w' := by
  go_enter Tryz.func92, Tryz.ntmps92
  go_wp2_with (go_at_call 90; refine (within_any _ _ _ _).mono ?_; rintro e w' ⟨rfl, rfl⟩)
  go_ret
  exact ⟨rfl, rfl⟩

set_option maxRecDepth 100000 in
set_option maxHeartbeats 400000 in
theorem IndexFunc_any (A : Nat → Prop) (v : Value) (l : List Int) (w : World) (h : RI A w v l) (f : FuncId) (c0 : Value) (p : Int → Bool)
    (hcf : ∀ x (w : World), (callFunc f #[.int .i64 x, c0]).run Tryz.prog w = .ok (.enter f #[.int .i64 x, c0]) w)
    (hp : ∀ x, x ∈ l → Calls Tryz.prog f #[.int .i64 x, c0] w fun e w' => e = .returned (.bool (p x)) ∧ w = w') :
    Calls Tryz.prog 178 #[v, .func (.func f) #[] #[c0]] w fun e w' => e = .returned (.int .i64 (idxF l p)) ∧ w = w' := by
  obtain ⟨a, cap, rfl, hcap, hmax, hlen, _, hc⟩ := h
  have HP := Lib.hid hp
  clear hp
  go_enter Tryz.func178, Tryz.ntmps178
  go_wp2
  go_loop [4, 8] (fun r i => ∃ k : Nat, k ≤ l.length ∧ i = .int .i64 k ∧ r = .int .i64 0 ∧ (l.take k).any p = false) (fun _ i => l.length - (intOf i).toNat)
  case atStart => exact ⟨0, Nat.zero_le _, rfl, rfl, rfl⟩
  case round =>
    obtain ⟨k, hk, rfl, rfl, hh⟩ := hrel
    have H := Lib.hid hh
    clear hh
    by_cases hlt : k < l.length
    · obtain ⟨b, off, rfl, _, _, hcell⟩ := hc (by intro e; simp [e] at hlt)
      have hck := hcell k hlt
      have hs := Lib.hid (any_snoc l p k hlt)
      have ht := Lib.hid (idxF_hit l p k hlt)
      have hm : l[k] ∈ l := List.getElem_mem hlt
      go_wp2_with fail
      refine (HP.out _ hm).mono ?_
      rintro e w' ⟨rfl, rfl⟩
      go_wp2
      · go_ret
        have h : p l[k] = true := by assumption
        exact ⟨ret_int (ht.out h H.out).symm, rfl⟩
      · have h : p l[k] = false := by assumption
        go_round
        case rel => exact ⟨k + 1, by omega, by go_num, rfl, by rw [hs.out, H.out, h]; rfl⟩
        case measure => simp [intOf]; omega
    · have hkl : k = l.length := by omega
      go_wp2
      go_ret
      subst hkl
      exact ⟨ret_int (by have := H.out; rw [List.take_length] at this; exact (idxF_none l p this).symm), rfl⟩

set_option maxRecDepth 100000 in
set_option maxHeartbeats 400000 in
theorem ContainsFunc_any (A : Nat → Prop) (v : Value) (l : List Int) (w : World) (h : RI A w v l) (f : FuncId) (c0 : Value) (p : Int → Bool)
    (hcf : ∀ x (w : World), (callFunc f #[.int .i64 x, c0]).run Tryz.prog w = .ok (.enter f #[.int .i64 x, c0]) w)
    (hp : ∀ x, x ∈ l → Calls Tryz.prog f #[.int .i64 x, c0] w fun e w' => e = .returned (.bool (p x)) ∧ w = w') :
    Calls Tryz.prog 157 #[v, .func (.func f) #[] #[c0]] w fun e w' => e = .returned (.bool (l.any p)) ∧ w = w' := by
  have hge := idxF_ge l p
  have H := Lib.hid hge
  have HP := Lib.hid hp
  clear hge hp
  have HC := Lib.hid hcf
  clear hcf
  go_enter Tryz.func157, Tryz.ntmps157
  go_wp2_with fail
  refine (IndexFunc_any A v l w h f c0 p HC.out HP.out).mono ?_
  rintro e w' ⟨rfl, rfl⟩
  go_wp2_with fail
  go_ret
  exact ⟨ret_bool H.out, rfl⟩

theorem cfBelow (x : Int) (c0 : Value) (w : World) : (callFunc 158 #[.int .i64 x, c0]).run Tryz.prog w = .ok (.enter 158 #[.int .i64 x, c0]) w := by kernel_rfl
set_option maxHeartbeats 400000 in
theorem areBelow1_any (x n : Int) (b : Nat) (w : World) (h : w.cell? ⟨b, 0, none⟩ = some (.int .i64 n)) (hn : -9223372036854775807 ≤ n) (hn' : n ≤ 9223372036854775807) :
    Calls Tryz.prog 158 #[.int .i64 x, .pointer (some ⟨b, 0, none⟩)] w fun e w' => e = .returned (.bool (!inB x 0 (n - 1))) ∧ w = w' := by
  go_enter Tryz.func158, Tryz.ntmps158
  go_wp2_with (go_at_call 90; refine (within_any _ _ _ _).mono ?_; rintro e w' ⟨rfl, rfl⟩)
  go_ret
  exact ⟨rfl, rfl⟩

theorem belowB_any (n : Int) (l : List Int) : (!l.any fun x => !inB x 0 (n - 1)) = belowB n l := by
  unfold belowB
  induction l with
  | nil => rfl
  | cons a l ih => simp only [List.any_cons, List.all_cons, Bool.not_or, Bool.not_not, ih]
set_option maxHeartbeats 400000 in
theorem areBelow_any (A : Nat → Prop) (v : Value) (l : List Int) (n : Int) (w : World) (h : RI A w v l) (hn : -9223372036854775807 ≤ n) (hn' : n ≤ 9223372036854775807) :
    Calls Tryz.prog 137 #[.int .i64 n, v] w (Ret fun v' w' => v' = .bool (belowB n l) ∧ Chg No w w') := by
  have H := Lib.hid (belowB_any n l)
  go_enter Tryz.func137, Tryz.ntmps137
  go_wp2_with fail
  refine (ContainsFunc_any A v l _ (h.keep ((Chg.refl No w).alloc _)) _ _ (fun x => !inB x 0 (n - 1)) (fun x w => cfBelow x _ w) (fun x _ => areBelow1_any x n _ _ (by rw [World.cell?_alloc_new]; rfl) hn hn')).mono ?_
  rintro e w1 ⟨rfl, rfl⟩
  go_wp2_with fail
  go_ret
  exact ⟨_, rfl, by rw [H.out]; rfl, (Chg.refl No w).alloc _⟩

set_option maxHeartbeats 400000 in
theorem IsRequests_any (A : Nat → Prop) (v : Value) (l : List Int) (n : Int) (w : World) (h : RI A w v l) :
    Calls Tryz.prog 89 #[.int .i64 n, v] w (Ret fun v' w' => v' = .bool (inB n 1 8 && decide (l.length ≤ 60) && belowB n l) ∧ Chg No w w') := by
  have h' := h
  obtain ⟨a, cap, rfl, hcap, hmax, hlen, _, hc⟩ := h
  clear hc
  go_enter Tryz.func89, Tryz.ntmps89
  by_cases h8 : inB n 1 8 = true
  · have hb := inB_iff.1 h8
    by_cases h60 : l.length ≤ 60
    · go_wp2_with (first | (go_at_call 136; refine (isItems_any _ _).mono ?_; rintro e w' ⟨rfl, rfl⟩) | (go_at_call 137; refine (areBelow_any _ _ _ _ _ h' (by omega) (by omega)).mono ?_; rintro e w' ⟨v', rfl, rfl, hch⟩))
      go_ret
      exact ⟨_, rfl, by simp [*], hch⟩
    · go_wp2_with (first | (go_at_call 136; refine (isItems_any _ _).mono ?_; rintro e w' ⟨rfl, rfl⟩))
      go_ret
      exact ⟨_, rfl, by simp [*], Chg.refl _ _⟩
  · have h8 : inB n 1 8 = false := by simpa using h8
    go_wp2_with (first | (go_at_call 136; refine (isItems_any _ _).mono ?_; rintro e w' ⟨rfl, rfl⟩))
    go_ret
    exact ⟨_, rfl, by simp [*], Chg.refl _ _⟩

set_option maxHeartbeats 400000 in
theorem isRun_any (A : Nat → Prop) (v : Value) (l : List Int) (n p k : Int) (w : World) (h : RI A w v l) :
    Calls Tryz.prog 72 #[.int .i64 n, .int .i64 p, .int .i64 k, v] w (Ret fun v' w' => v' = .bool (inB p 1 7 && inB k 1 6 && (inB n 1 8 && decide (l.length ≤ 60) && belowB n l)) ∧ Chg No w w') := by
  go_enter Tryz.func72, Tryz.ntmps72
  by_cases h1 : inB p 1 7 = true
  · by_cases h2 : inB k 1 6 = true
    · go_wp2_with (first | (go_at_call 91; refine (isPolicy_any _ _).mono ?_; rintro e w' ⟨rfl, rfl⟩) | (go_at_call 92; refine (isSize_any _ _).mono ?_; rintro e w' ⟨rfl, rfl⟩) | (go_at_call 89; refine (IsRequests_any _ _ _ _ _ h).mono ?_; rintro e w' ⟨v', rfl, rfl, hch⟩))
      go_ret
      exact ⟨_, rfl, by simp [h1, h2], hch⟩
    · have h2 : inB k 1 6 = false := by simpa using h2
      go_wp2_with (first | (go_at_call 91; refine (isPolicy_any _ _).mono ?_; rintro e w' ⟨rfl, rfl⟩) | (go_at_call 92; refine (isSize_any _ _).mono ?_; rintro e w' ⟨rfl, rfl⟩))
      go_ret
      exact ⟨_, rfl, by simp [h1, h2], Chg.refl _ _⟩
  · have h1 : inB p 1 7 = false := by simpa using h1
    go_wp2_with (first | (go_at_call 91; refine (isPolicy_any _ _).mono ?_; rintro e w' ⟨rfl, rfl⟩) | (go_at_call 92; refine (isSize_any _ _).mono ?_; rintro e w' ⟨rfl, rfl⟩))
    go_ret
    exact ⟨_, rfl, by simp [h1], Chg.refl _ _⟩

set_option maxHeartbeats 400000 in
theorem Index_any (A : Nat → Prop) (v : Value) (l : List Int) (n : Int) (w : World) (h : RI A w v l) :
    Calls Tryz.prog 147 #[v, .int .i64 n] w fun e w' => e = .returned (.int .i64 (atI l n)) ∧ w = w' := by
  obtain ⟨a, cap, rfl, hcap, hmax, hlen, _, hc⟩ := h
  go_enter Tryz.func147, Tryz.ntmps147
  go_wp2
  go_loop [4, 8] (fun r i => ∃ k : Nat, k ≤ l.length ∧ i = .int .i64 k ∧ r = .int .i64 0 ∧ hasB (l.take k) n = false) (fun _ i => l.length - (intOf i).toNat)
  case atStart => exact ⟨0, Nat.zero_le _, rfl, rfl, rfl⟩
  case round =>
    obtain ⟨k, hk, rfl, rfl, hh⟩ := hrel
    have H := Lib.hid hh
    clear hh
    by_cases hlt : k < l.length
    · obtain ⟨b, off, rfl, _, _, hcell⟩ := hc (by intro e; simp [e] at hlt)
      have hck := hcell k hlt
      have hs := Lib.hid (hasB_snoc l n k hlt)
      have ht := Lib.hid (atI_hit l n k hlt)
      go_wp2
      · go_ret
        have h : (n == l[k]) = true := by assumption
        exact ⟨ret_int (ht.out (beq_iff_eq.1 h).symm H.out).symm, rfl⟩
      · have h : (n == l[k]) = false := by assumption
        go_round
        case rel => exact ⟨k + 1, by omega, by go_num, rfl, by rw [hs.out, H.out, BEq.comm, h]; rfl⟩
        case measure => simp [intOf]; omega
    · have hkl : k = l.length := by omega
      go_wp2
      go_ret
      subst hkl
      exact ⟨ret_int (by have := H.out; rw [List.take_length] at this; exact (atI_none l n this).symm), rfl⟩
end Go.Proofs.YtodnkkmjjlfoiaaGreat

namespace Go.Proofs.YtodnkkmjjlfoiaaGreat
open Go.RowKit

theorem eql_nil (w : World) (a : Option Addr) (n c : Nat) : (binOp .eql 23 (.slice a n c) (.slice none 0 0)).run Tryz.prog w = .ok (.bool a.isNone) w := by
  simp only [binOp]
  simp [Op.equal, Op.maxDepth, Lib.run_equalIn_slice_nil w 9999 23 3 a n c 0 0 Tryz.underlying23]

/-- the row in which an owned slice lies -/
theorem OI.row {base : Nat} {w : World} {g n cap : Nat} {l : List Int} (h : OI base w (.slice (some ⟨g, 0, none⟩) n cap) l) :
    ∃ cur : Array Value, w.heap[g]? = some (.cells cur 3 (0, 0)) ∧ cur.size = cap ∧ cur.toList.take l.length = l.map (Value.int .i64) ∧ n = l.length ∧ n ≤ cap ∧ cap ≤ maxLen ∧ base ≤ g ∧ g < w.heap.size := by
  have ha := h.at
  rcases h.2.2 with ⟨hv, _⟩ | ⟨g', cap', cur, hv, hb, hg, hn, hm, hs, ht⟩
  · simp at hv
  · simp only [Value.slice.injEq, Option.some.injEq, Addr.mk.injEq, and_true] at hv
    obtain ⟨rfl, h2, rfl⟩ := hv
    exact ⟨cur, hg, by simpa using hs, by simpa using ht, h2, by omega, hm, hb, ha.2.2.2.1⟩
theorem OI.ofRow {base : Nat} {w : World} {g n cap : Nat} {l : List Int} {cur : Array Value} (hg : w.heap[g]? = some (.cells cur 3 (0, 0))) (hs : cur.size = cap) (ht : cur.toList.take l.length = l.map (Value.int .i64))
    (hn : n = l.length) (hc : n ≤ cap) (hm : cap ≤ maxLen) (hb : base ≤ g) (hl : l.length ≤ 17592186044416) : OI base w (.slice (some ⟨g, 0, none⟩) n cap) l := by
  subst hn
  exact ⟨hl, by simp, .inr ⟨g, cap, cur, rfl, hb, hg, hc, hm, by simpa using hs, by simpa using ht⟩⟩
theorem OI.pre {base : Nat} {w : World} {g n cap : Nat} {l : List Int} (h : OI base w (.slice (some ⟨g, 0, none⟩) n cap) l) (i : Nat) (hi : i ≤ l.length) : OI base w (.slice (some ⟨g, 0, none⟩) i cap) (l.take i) := by
  obtain ⟨cur, h1, h2, h3, h4, h5, h6, h7, _⟩ := h.row
  have hL := h.len
  refine OI.ofRow h1 h2 ?_ (by simp; omega) (by omega) h6 h7 (by simp; omega)
  rw [List.map_take, ← h3, List.take_take, List.length_take]
theorem OI.spare {base : Nat} {w : World} {g n cap : Nat} {l : List Int} (h : OI base w (.slice (some ⟨g, 0, none⟩) n cap) l) (j : Nat) (hj : n ≤ j) (u : Value) :
    OI base (w.setCell ⟨g, j, none⟩ u) (.slice (some ⟨g, 0, none⟩) n cap) l ∧ Chg (fun k => k = g) w (w.setCell ⟨g, j, none⟩ u) := by
  obtain ⟨cur, h1, h2, h3, h4, h5, h6, h7, h8⟩ := h.row
  refine ⟨OI.ofRow (heap_setCell_same w g j cur 3 u h1) (by simpa using h2) ?_ h4 h5 h6 h7 h.len, (Chg.refl (fun k => k = g) w).setCell (p := ⟨g, j, none⟩) (fun _ => rfl) u⟩
  rw [Array.toList_setIfInBounds, List.take_set_of_le (by omega), h3]
theorem OI.cellAny {base : Nat} {w : World} {g n cap : Nat} {l : List Int} (h : OI base w (.slice (some ⟨g, 0, none⟩) n cap) l) (j : Nat) (hj : j < cap) : ∃ u, w.cell? ⟨g, j, none⟩ = some u := by
  obtain ⟨cur, h1, h2, _⟩ := h.row
  refine ⟨cur[j]'(by omega), ?_⟩
  rw [cell_of_row w g j cur 3 (0, 0) h1]
  simp [h2, hj]

/-- append within the capacity -/
theorem run_app_room (w : World) {base : Nat} {g n cap : Nat} {xv : Value} {l m : List Int} (hown : OI base w (.slice (some ⟨g, 0, none⟩) n cap) l) (hx : RI No w xv m) (hroom : l.length + m.length ≤ cap) (hl : l.length + m.length ≤ 17592186044416) :
    ∃ w', (∀ ty, (Builtin.append_ #[23, 23] ty #[.slice (some ⟨g, 0, none⟩) n cap, xv]).run Tryz.prog w = .ok (.slice (some ⟨g, 0, none⟩) (l.length + m.length) cap) w') ∧ OI base w' (.slice (some ⟨g, 0, none⟩) (l.length + m.length) cap) (l ++ m) ∧ Chg (fun k => k = g) w w' := by
  obtain ⟨i0, hi, hz0, hz1, hz2⟩ := info_parts Tryz.infoInt
  have hb := hown.at
  obtain ⟨_, _, hbase, hlt, hn, _, _⟩ := hb
  obtain ⟨v', w', hr, h1, h2, h3⟩ := run_app 0 hown hx hl (Nat.le_trans hbase (Nat.le_of_lt hlt))
  have hv : v' = .slice (some ⟨g, 0, none⟩) (l.length + m.length) cap := by
    obtain ⟨ao, c, rfl, hx1, hx2, hx3, hx0, hx4⟩ := hx
    cases ao with
    | none =>
      have hc0 := hx0 rfl
      subst hc0
      have hm0 : m = [] := List.eq_nil_of_length_eq_zero (by omega)
      subst hm0
      have hr2 := run_append_owned_none (P := Tryz.prog) w base 23 0 3 i0 1 Tryz.underlying23 hi _ _ _ hown.2
      rw [List.length_nil] at hr
      rw [hr] at hr2
      simp only [Result.ok.injEq] at hr2
      rw [hr2.1, hn]; rfl
    | some ad =>
      have hnews : ∀ j u, (m.map (Value.int .i64))[j]? = some u → w.cell? (ad.add j) = some u := by
        intro j u hj
        have hjl : j < m.length := by simpa using (List.getElem?_eq_some_iff.1 hj).1
        obtain ⟨b, off, he, _, _, hcell⟩ := hx4 (fun e => by rw [e] at hjl; simp at hjl)
        obtain rfl := Option.some.inj he
        rw [Addr.add_lit, hcell j hjl]
        simpa [List.getElem?_map, List.getElem?_eq_getElem hjl] using hj
      subst hn
      obtain ⟨w2, hr2, _, _⟩ := run_append_fits (P := Tryz.prog) w base 23 0 3 i0 1 Tryz.underlying23 hi hz1 g l.length cap _ hown.2 ad m.length c (m.map (Value.int .i64)) (by simp) hnews (ints_oneCell .i64 m) hroom
      rw [hr] at hr2
      simp only [Result.ok.injEq] at hr2
      exact hr2.1
  subst hv
  exact ⟨w', fun _ => hr, h1, h2.mono (fun k hk _ => own_slice.1 hk)⟩

/-- an append whose run is known, at a step of a region that draws -/
theorem sapp_run {ops : Array Oper} {o : Oper} {a : Act} {K : Act → World → Prop} {Q : Exit → Act → World → Prop} {E : Prop} {w : World} (hgd : o.guard = none) (s x : Operand) (t tn : TypeId)
    (ho : o.op = .call { callee := .builtin .append, args := #[s, x], argTypes := #[t, tn] }) {vs vx v' : Value} {w' : World} (hr : ∀ ty, (Builtin.append_ #[t, tn] ty #[vs, vx]).run Tryz.prog w = .ok v' w') (hs : a.eval s = vs) (hx : a.eval x = vx)
    (h : K (a.put o.dst v') w') : if Region.wanted o (yielded ops a.tmps) = true then Oper.wp Tryz.prog o a w K Q else E := by
  have hw : Region.wanted o (yielded ops a.tmps) = true := by simp [Region.wanted, hgd]
  rw [if_pos hw]
  unfold Oper.wp execOp
  simp only [ho, resolve, invoke, builtin, Sem.run_bind, Sem.run_pure, Result.andThen_ok, List.map_toArray, List.map_cons, List.map_nil, hs, hx, hr]
  exact h

theorem run_clear1 (w : World) (ty : TypeId) (g o c : Nat) (u : Value) (hc : w.cell? ⟨g, o, none⟩ = some u) (hf : w.frozen? ⟨g, o, none⟩ = false) :
    (Builtin.clear_ #[23] ty #[.slice (some ⟨g, o, none⟩) 1 c]).run Tryz.prog w = .ok (.tuple #[]) (w.setCell ⟨g, o, none⟩ (.int .i64 0)) := by
  have hz : ∀ w : World, (zeroValue 3).run Tryz.prog w = .ok (.int .i64 0) w := fun w => by kernel_rfl
  have h := Lib.run_clear_slice (P := Tryz.prog) w 23 3 ty (.int .i64 0) Tryz.underlying23 hz rfl rfl g o 1 c (by omega) (fun j hj => by
    have : j = 0 := by omega
    subst this; rw [Nat.add_zero, hc]; rfl) (fun j hj => by
    have : j = 0 := by omega
    subst this; rw [Nat.add_zero]; exact hf)
  simpa [World.setCells] using h

set_option maxRecDepth 100000 in
set_option maxHeartbeats 400000 in
theorem Clone_any (A : Nat → Prop) (v : Value) (l : List Int) (w : World) (h : RI A w v l) :
    Calls Tryz.prog 95 #[v] w (Ret fun v' w' => OI w.heap.size w' v' l ∧ Chg No w w') := by
  have hL := h.len
  have h' := h
  obtain ⟨a, cap, rfl, hcap, hmax, hlen, h0, hc⟩ := h
  have he := eql_nil
  cases a with
  | none =>
    have hc0 := h0 rfl
    have hl0 : l = [] := List.eq_nil_of_length_eq_zero (by omega)
    subst hl0
    subst hc0
    go_enter Tryz.func95, Tryz.ntmps95
    go_wp2
    go_ret
    exact ⟨_, rfl, OI.nil _ _, Chg.refl _ _⟩
  | some ad =>
    go_enter Tryz.func95, Tryz.ntmps95
    go_wp2_with (at_builtin; refine wapp rfl (.tmp 5) (.tmp 6) rfl (OI.zero (Nat.le_refl w.heap.size)) ((h'.weak (fun _ hk _ => hk.elim)).keep ((Chg.refl No w).alloc _)) rfl rfl (by simpa using hL) (by simp) ?_; intro v1 w1 h1 h2 h3)
    go_ret
    exact ⟨_, rfl, by simpa using h1, ((Chg.refl No w).alloc _).own h2 (OI.zero (Nat.le_refl _)) (Nat.le_refl _)⟩

set_option maxRecDepth 100000 in
set_option maxHeartbeats 1000000 in
theorem Delete1_any (base : Nat) (v : Value) (l : List Int) (i : Nat) (j : Int) (w : World) (h : OI base w v l) (hi : i < l.length) (hj : j = (i : Int) + 1) :
    Calls Tryz.prog 148 #[v, .int .i64 i, .int .i64 j] w (Ret fun v' w' => OI base w' v' (l.eraseIdx i) ∧ Chg (own v) w w' ∧ ∀ q, own v' q → own v q) := by
  have hL := h.len
  obtain ⟨a, cap, rfl, hcap, hmax, hv⟩ := h.view
  obtain ⟨g, rfl, hg1, hg2, hcell, hfr⟩ := hv (by omega)
  have hread : RI No w (.slice (some ⟨g, 0, none⟩) l.length cap) l := h.readNo
  obtain ⟨x2, hx2, hR2⟩ := hread.from (i + 1) j (by omega) (by omega)
  have hpre := h.pre i (by omega)
  have hnn : Hid ((l.take i).length + (l.drop (i + 1)).length = l.length - 1) := Lib.hid (by simp; omega)
  obtain ⟨w1, hr, ho, hch⟩ := run_app_room w.drew (hpre.keep (Chg.refl No w).drew) (hR2.keep (Chg.refl No w).drew) (by have := hnn.out; omega) (by have := hnn.out; omega)
  rw [hnn.out] at hr ho
  obtain ⟨u, hu⟩ := ho.cellAny (l.length - 1) (by omega)
  have hfu := (ho.at).2.1 (l.length - 1)
  obtain ⟨ho2, hch2⟩ := ho.spare (l.length - 1) (Nat.le_refl _) (.int .i64 0)
  have hcl : ∀ ty c, (Builtin.clear_ #[23] ty #[.slice (some ⟨g, l.length - 1, none⟩) (l.length - (l.length - 1)) c]).run Tryz.prog w1 = .ok (.tuple #[]) (w1.setCell ⟨g, l.length - 1, none⟩ (.int .i64 0)) := fun ty c => by
    rw [show l.length - (l.length - 1) = 1 by omega]
    exact run_clear1 w1 ty g (l.length - 1) c u hu hfu
  have hne : ¬ (l.length = i) := by omega
  have hi1 : (i : Int) < (l.length : Int) := by omega
  have hji : (i : Int) < j := by omega
  have hjl : j ≤ (l.length : Int) := by omega
  have hj0 : (0 : Int) ≤ j := by omega
  have hi0 : (0 : Int) ≤ (i : Int) := by omega
  have hic : (i : Int) ≤ (cap : Int) := by omega
  have hij : ((i : Int) == j) = false := by simp; omega
  have hnl : ((l.length - 1 : Nat) : Int) = (l.length : Int) - 1 := by omega
  have HNL := Lib.hid hnl
  clear hcell hv hpre hj hnl
  go_enter Tryz.func148, Tryz.ntmps148
  go_wp2_with fail
  go_region_held3 (fun w' => Hid True) (exact trivial) (first | (refine sapp_run rfl (.tmp 22) (.tmp 25) _ _ rfl hr rfl rfl ?_) | fail)
  go_wp2
  go_ret
  refine ⟨_, rfl, ?_, ((Chg.refl _ w).drew.step hch (fun k hk _ => own_slice.2 hk)).step hch2 (fun k hk _ => own_slice.2 hk), fun q hq => own_slice.2 (own_slice.1 hq)⟩
  rw [List.eraseIdx_eq_take_drop_succ]
  exact ho2
end Go.Proofs.YtodnkkmjjlfoiaaGreat
