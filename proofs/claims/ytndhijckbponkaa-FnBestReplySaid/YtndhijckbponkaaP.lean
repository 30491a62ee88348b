
/-
  Plain Lean: lists of numbers, and caches as step machines. No program in sight.
-/
namespace Go.Proofs.Ytndhijckbponkaa

def inB (x a b : Int) : Bool := decide (a ≤ x) && decide (x ≤ b)
theorem inB_iff {x a b : Int} : inB x a b = true ↔ a ≤ x ∧ x ≤ b := by simp [inB]
theorem take_snoc (l : List Int) (k : Nat) (h : k < l.length) : l.take (k + 1) = l.take k ++ [l[k]] := by
  rw [List.take_succ_eq_append_getElem h]
def belowB (n : Int) (l : List Int) : Bool := l.all fun a => inB a 0 (n - 1)
theorem belowB_snoc (n : Int) (l : List Int) (k : Nat) (h : k < l.length) : belowB n (l.take (k + 1)) = (belowB n (l.take k) && inB l[k] 0 (n - 1)) := by
  unfold belowB; rw [take_snoc l k h, List.all_append]; simp only [List.all_cons, List.all_nil, Bool.and_true]
theorem belowB_stop (n : Int) (l : List Int) (k : Nat) (h : k < l.length) (hk : inB l[k] 0 (n - 1) = false) : belowB n l = false := by
  rw [belowB, List.all_eq_false]
  exact ⟨l[k], List.getElem_mem h, by simp [hk]⟩

/-- the first place at which p holds, -1 if there is none -/
def idxF (l : List Int) (p : Int → Bool) : Int := if l.any p then (l.findIdx p : Int) else -1
theorem any_snoc (l : List Int) (p : Int → Bool) (k : Nat) (h : k < l.length) : (l.take (k + 1)).any p = ((l.take k).any p || p l[k]) := by
  rw [take_snoc l k h, List.any_append]; simp only [List.any_cons, List.any_nil, Bool.or_false]
theorem idxF_hit (l : List Int) (p : Int → Bool) (k : Nat) (h : k < l.length) (hk : p l[k] = true) (hn : (l.take k).any p = false) : idxF l p = k := by
  have ha : l.any p = true := List.any_eq_true.2 ⟨l[k], List.getElem_mem h, hk⟩
  rw [idxF, if_pos ha]
  congr 1
  rw [List.findIdx_eq h]
  refine ⟨hk, fun j hj => ?_⟩
  have := List.any_eq_false.1 hn l[j] (List.mem_take_iff_getElem.2 ⟨j, by omega, rfl⟩)
  simpa using this
theorem idxF_none (l : List Int) (p : Int → Bool) (h : l.any p = false) : idxF l p = -1 := by rw [idxF, h]; rfl
theorem idxF_ge (l : List Int) (p : Int → Bool) : decide (0 ≤ idxF l p) = l.any p := by
  cases h : l.any p
  · rw [idxF_none l p h]; rfl
  · rw [idxF, if_pos h]; simp
theorem getD_mem {l : List Int} {i : Nat} (h : i < l.length) : l.getD i 0 ∈ l := by
  rw [List.getD_eq_getElem?_getD, List.getElem?_eq_getElem h]; exact List.getElem_mem h

end Go.Proofs.Ytndhijckbponkaa
