import Derived.Test.YtodnkkmjjlfoiaaBh
import Derived.Test.YtodnkkmjjlfoiaaPk4
import Derived.Test.YtodnkkmjjlfoiaaPk3
import Derived.Test.YtodnkkmjjlfoiaaBg
/- the reference's table of least numbers of faults -/
namespace Go.Proofs.Ytodnkkmjjlfoiaa
open Go.RowKit

/-- a row of slices of int, each in a block of its own, in a block of the call's -/
structure TabW (base : Nat) (w : World) (g n : Nat) (vs : List Value) (ll : List (List Int)) : Prop where
  os : OS 26 1 base w (.slice (some ⟨g, 0, none⟩) n n) n vs
  vl : vs.length = n
  rl : ll.length = n
  row : ∀ i, i < n → OI base w (vs.getD i undef) (ll.getD i [])
  far : ∀ i, i < n → ∀ q, own (vs.getD i undef) q → q ≠ g
  dis : ∀ i j, i < n → j < n → i ≠ j → ∀ q, own (vs.getD i undef) q → ¬ own (vs.getD j undef) q
theorem TabW.keep {base : Nat} {w w' : World} {g n : Nat} {vs : List Value} {ll : List (List Int)} (h : TabW base w g n vs ll) (hc : Chg No w w') : TabW base w' g n vs ll :=
  ⟨h.os.keep hc, h.vl, h.rl, fun i hi => (h.row i hi).keep hc, h.far, h.dis⟩
theorem getD_set_self {α : Type} (l : List α) (i : Nat) (x d : α) (hi : i < l.length) : (l.set i x).getD i d = x := by simp [List.getD_eq_getElem?_getD, hi]
theorem getD_set_other {α : Type} (l : List α) (i j : Nat) (x d : α) (h : i ≠ j) : (l.set i x).getD j d = l.getD j d := by simp [List.getD_eq_getElem?_getD, h]
/-- t[i] = x, x grown out of what stood there -/
theorem TabW.put {base : Nat} {w w' : World} {g n : Nat} {vs : List Value} {ll : List (List Int)} (h : TabW base w g n vs ll) {i : Nat} (hi : i < n) {x : Value} {l : List Int} (ho : OI base w' x l) (hc : Chg (own (vs.getD i undef)) w w')
    (hf : ∀ q, own x q → own (vs.getD i undef) q ∨ w.heap.size ≤ q) :
    TabW base (w'.setCell ⟨g, i, none⟩ x) g n (vs.set i x) (ll.set i l) ∧ Chg (fun q => q = g ∨ own (vs.getD i undef) q) w (w'.setCell ⟨g, i, none⟩ x) := by
  have hg : g < w.heap.size := (h.os.at).2.2.2.1
  have hgi : ¬ own (vs.getD i undef) g := fun e => h.far i hi g e rfl
  have hxg : ∀ q, own x q → q ≠ g := fun q hq e => by
    subst e
    rcases hf q hq with h1 | h1
    · exact hgi h1
    · omega
  have hos := h.os.step hc (fun q hq => by rw [own_slice.1 hq]; exact hgi)
  obtain ⟨s1, s2⟩ := hos.store i x
  have hvl := h.vl
  have hll := h.rl
  refine ⟨⟨s1, by simpa using h.vl, by simpa using h.rl, fun j hj => ?_, fun j hj q hq => ?_, fun j k hj hk hjk q hq => ?_⟩, ?_⟩
  · by_cases e : j = i
    · subst e
      rw [getD_set_self _ _ _ _ (by omega), getD_set_self _ _ _ _ (by omega)]
      exact ho.step s2 (fun q hq e => hxg q hq e)
    · rw [getD_set_other _ _ _ _ _ (Ne.symm e), getD_set_other _ _ _ _ _ (Ne.symm e)]
      exact ((h.row j hj).step hc (fun q hq e2 => h.dis j i hj hi e q hq e2)).step s2 (fun q hq e => h.far j hj q hq e)
  · by_cases e : j = i
    · subst e
      rw [getD_set_self _ _ _ _ (by omega)] at hq
      exact hxg q hq
    · rw [getD_set_other _ _ _ _ _ (Ne.symm e)] at hq
      exact h.far j hj q hq
  · by_cases e : j = i
    · subst e
      rw [getD_set_self _ _ _ _ (by omega)] at hq
      rw [getD_set_other _ _ _ _ _ hjk]
      intro hk2
      rcases hf q hq with h1 | h1
      · exact h.dis j k hj hk hjk q h1 hk2
      · have := ((h.row k hk).lt q hk2).2; omega
    · rw [getD_set_other _ _ _ _ _ (Ne.symm e)] at hq
      by_cases e2 : k = i
      · subst e2
        rw [getD_set_self _ _ _ _ (by omega)]
        intro hk2
        rcases hf q hk2 with h1 | h1
        · exact h.dis j k hj hk hjk q hq h1
        · have := ((h.row j hj).lt q hq).2; omega
      · rw [getD_set_other _ _ _ _ _ (Ne.symm e2)]
        exact h.dis j k hj hk hjk q hq
  · exact (hc.mono (T := fun q => q = g ∨ own (vs.getD i undef) q) (fun q hq _ => .inr hq)).step s2 (fun q hq _ => .inl hq)
theorem TabW.low {base : Nat} {w : World} {g n : Nat} {vs : List Value} {ll : List (List Int)} (h : TabW base w g n vs ll) {i : Nat} (hi : i < n) (q : Nat) (hq : q = g ∨ own (vs.getD i undef) q) : base ≤ q := by
  rcases hq with rfl | hq
  · exact (h.os.at).2.2.1
  · exact ((h.row i hi).lt q hq).1
/-- the cell of one of its rows -/
theorem TabW.cell {base : Nat} {w : World} {g n : Nat} {vs : List Value} {ll : List (List Int)} (h : TabW base w g n vs ll) {i : Nat} (hi : i < n) : w.cell? ⟨g, i, none⟩ = some (vs.getD i undef) ∧ w.frozen? ⟨g, i, none⟩ = false :=
  ⟨(h.os.at).1 i (by rw [h.vl]; exact hi), (h.os.at).2.1 i⟩

/-- row i of the table -/
def rowL (K n : Nat) (lr : List Nat) (i : Nat) : List Int := (List.range (2 ^ n)).map fun s => dpM K n (lr.drop i) s
/-- the table from row q on -/
def tabL (K n : Nat) (lr : List Nat) (q : Nat) : List (List Int) := (List.range (lr.length + 1)).map fun t => if q ≤ t then rowL K n lr t else []
theorem rowL_len (K n : Nat) (lr : List Nat) (i : Nat) : (rowL K n lr i).length = 2 ^ n := by simp [rowL]
theorem tabL_len (K n : Nat) (lr : List Nat) (q : Nat) : (tabL K n lr q).length = lr.length + 1 := by simp [tabL]
theorem rowL_at (K n : Nat) (lr : List Nat) (i s : Nat) (hs : s < 2 ^ n) : (rowL K n lr i).getD s 0 = dpM K n (lr.drop i) s := by simp [rowL, List.getD_eq_getElem?_getD, hs]
theorem rowL_snoc (K n : Nat) (lr : List Nat) (i s : Nat) (hs : s < 2 ^ n) : (rowL K n lr i).take (s + 1) = (rowL K n lr i).take s ++ [dpM K n (lr.drop i) s] := by
  rw [List.take_succ_eq_append_getElem (by rw [rowL_len]; exact hs)]
  congr 2
  simp [rowL]
theorem tabL_at (K n : Nat) (lr : List Nat) (q t : Nat) (ht : t < lr.length + 1) : (tabL K n lr q).getD t [] = if q ≤ t then rowL K n lr t else [] := by simp [tabL, List.getD_eq_getElem?_getD, ht]
theorem tabL_set (K n : Nat) (lr : List Nat) (i : Nat) (_hi : i < lr.length + 1) : (tabL K n lr (i + 1)).set i (rowL K n lr i) = tabL K n lr i := by
  apply List.ext_getElem
  · simp [tabL]
  · intro t h1 h2
    simp only [tabL, List.length_map, List.length_range] at h2
    rw [List.getElem_set]
    split
    · rename_i e; subst e; simp [tabL]
    · rename_i e
      simp only [tabL, List.getElem_map, List.getElem_range]
      by_cases h : i ≤ t
      · rw [if_pos (by omega), if_pos h]
      · rw [if_neg (by omega), if_neg h]
theorem tabL_last (K n : Nat) (lr : List Nat) : (List.replicate (lr.length + 1) ([] : List Int)).set lr.length (List.replicate (2 ^ n) 0) = tabL K n lr lr.length := by
  apply List.ext_getElem
  · simp [tabL]
  · intro t h1 h2
    simp only [tabL, List.length_map, List.length_range] at h2
    rw [List.getElem_set]
    split
    · rename_i e; subst e
      simp only [tabL, List.getElem_map, List.getElem_range, Nat.le_refl, if_true, rowL, List.drop_length]
      have : (fun s : Nat => dpM K n [] s) = fun _ => (0 : Int) := by funext s; rfl
      rw [this, List.map_const', List.length_range]
    · rename_i e
      simp only [tabL, List.getElem_map, List.getElem_range, List.getElem_replicate]
      rw [if_neg (by omega)]
theorem set_set_same (l : List (List Int)) (i : Nat) (a b : List Int) : (l.set i a).set i b = l.set i b := by simp
end Go.Proofs.Ytodnkkmjjlfoiaa
