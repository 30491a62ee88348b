import Derived.Test.YtndhijckbponkaaJb
/- the products of chances, mixtures, plain -/
namespace Go.Proofs.Ytndhijckbponkaa

theorem wS_app (a b : Chs) (seen : List Int) : wS (a ++ b) seen = wS a seen + wS b seen := by
  induction a with
  | nil => simp [wS]
  | cons x a ih =>
    obtain ⟨q, w⟩ := x
    simp only [List.cons_append, wS]
    rw [ih]; omega
/-- one request each -/
def cs1 (ws : Nat → Int) : Nat → Chs
  | 0 => []
  | k + 1 => cs1 ws k ++ (if 0 < ws k then [([(k : Int)], ws k)] else [])
def cs2row (ws : Nat → Int) (i : Nat) : Nat → Chs
  | 0 => []
  | k + 1 => cs2row ws i k ++ (if 0 < ws i * ws k then [([(i : Int), (k : Int)], ws i * ws k)] else [])
/-- two requests each -/
def cs2 (ws : Nat → Int) (K : Nat) : Nat → Chs
  | 0 => []
  | i + 1 => cs2 ws K i ++ cs2row ws i K
theorem pre1 (r k : Nat) : ([(r : Int)].isPrefixOf [(k : Int)]) = decide (r = k) := by
  simp only [List.isPrefixOf, Bool.and_true]
  by_cases h : r = k
  · subst h; simp
  · simp [h]; omega
theorem pre12 (r i k : Nat) : ([(r : Int)].isPrefixOf [(i : Int), (k : Int)]) = decide (r = i) := by
  simp only [List.isPrefixOf, Bool.and_true]
  by_cases h : r = i
  · subst h; simp
  · simp [h]; omega
theorem pre22 (r q i k : Nat) : ([(r : Int), (q : Int)].isPrefixOf [(i : Int), (k : Int)]) = (decide (r = i) && decide (q = k)) := by
  simp only [List.isPrefixOf, Bool.and_true]
  by_cases h : r = i <;> by_cases h' : q = k
  · subst h; subst h'; simp
  · subst h; simp [h']; omega
  · subst h'; simp [h]; omega
  · simp [h, h']; omega
theorem wS_cs1 {ws : Nat → Int} (hw : ∀ r, 0 ≤ ws r) (m r : Nat) : wS (cs1 ws m) [(r : Int)] = if r < m then ws r else 0 := by
  induction m with
  | zero => simp [cs1, wS]
  | succ m ih =>
    have hm := hw m
    simp only [cs1]
    rw [wS_app, ih]
    by_cases h0 : 0 < ws m
    · rw [if_pos h0]
      simp only [wS, pre1]
      by_cases e : r = m
      · subst e; simp
      · by_cases hl : r < m
        · simp [e, hl, show r < m + 1 by omega]
        · simp [e, hl, show ¬ r < m + 1 by omega]
    · rw [if_neg h0]
      simp only [wS]
      by_cases e : r = m
      · subst e
        rw [if_neg (by omega), if_pos (by omega)]; omega
      · by_cases hl : r < m
        · rw [if_pos hl, if_pos (by omega)]; omega
        · rw [if_neg hl, if_neg (by omega)]; omega
theorem wS_row1 {ws : Nat → Int} (hw : ∀ r, 0 ≤ ws r) (i m r : Nat) : wS (cs2row ws i m) [(r : Int)] = if r = i then ws i * sumK ws m else 0 := by
  induction m with
  | zero => simp [cs2row, wS, sumK]
  | succ m ih =>
    have hm := Int.mul_nonneg (hw i) (hw m)
    simp only [cs2row, sumK]
    rw [wS_app, ih]
    by_cases h0 : 0 < ws i * ws m
    · rw [if_pos h0]
      simp only [wS, pre12]
      by_cases e : r = i
      · subst e; simp [Int.mul_add]
      · simp [e]
    · rw [if_neg h0]
      have hz : ws i * ws m = 0 := by omega
      simp only [wS]
      by_cases e : r = i
      · subst e
        rw [if_pos rfl, if_pos rfl, Int.mul_add, hz]
      · rw [if_neg e, if_neg e]; rfl
theorem wS_row2 {ws : Nat → Int} (hw : ∀ r, 0 ≤ ws r) (i m r q : Nat) : wS (cs2row ws i m) [(r : Int), (q : Int)] = if r = i ∧ q < m then ws i * ws q else 0 := by
  induction m with
  | zero => simp [cs2row, wS]
  | succ m ih =>
    have hm := Int.mul_nonneg (hw i) (hw m)
    simp only [cs2row]
    rw [wS_app, ih]
    by_cases h0 : 0 < ws i * ws m
    · rw [if_pos h0]
      simp only [wS, pre22]
      by_cases e : r = i <;> by_cases e' : q = m
      · subst e; subst e'; simp
      · subst e
        by_cases hl : q < m
        · simp [hl, e']; omega
        · have : ¬ q < m + 1 := by omega
          simp [hl, e', this]
      · subst e'; simp [e]
      · simp [e]
    · rw [if_neg h0]
      have hz : ws i * ws m = 0 := by omega
      simp only [wS]
      by_cases e : r = i
      · subst e
        by_cases e' : q = m
        · subst e'; simp [hz]
        · by_cases hl : q < m
          · rw [if_pos ⟨rfl, hl⟩, if_pos ⟨rfl, by omega⟩]; omega
          · rw [if_neg (by omega), if_neg (by omega)]; rfl
      · rw [if_neg (by omega), if_neg (by omega)]; rfl
theorem wS_cs2a {ws : Nat → Int} (hw : ∀ r, 0 ≤ ws r) (K m r : Nat) : wS (cs2 ws K m) [(r : Int)] = if r < m then ws r * sumK ws K else 0 := by
  induction m with
  | zero => simp [cs2, wS]
  | succ m ih =>
    simp only [cs2]
    rw [wS_app, ih, wS_row1 hw]
    by_cases e : r = m
    · subst e; simp
    · by_cases hl : r < m
      · rw [if_pos hl, if_neg e, if_pos (by omega)]; omega
      · rw [if_neg hl, if_neg e, if_neg (by omega)]; rfl
theorem wS_cs2b {ws : Nat → Int} (hw : ∀ r, 0 ≤ ws r) (K m r q : Nat) (hq : q < K) : wS (cs2 ws K m) [(r : Int), (q : Int)] = if r < m then ws r * ws q else 0 := by
  induction m with
  | zero => simp [cs2, wS]
  | succ m ih =>
    simp only [cs2]
    rw [wS_app, ih, wS_row2 hw]
    by_cases e : r = m
    · subst e; simp [hq]
    · by_cases hl : r < m
      · rw [if_pos hl, if_neg (by omega), if_pos (by omega)]; omega
      · rw [if_neg hl, if_neg (by omega), if_neg (by omega)]; rfl
end Go.Proofs.Ytndhijckbponkaa
