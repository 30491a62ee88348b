import Derived.Test.YtccmocbkpanibaaGreatJ
import Derived.Test.YtccmocbkpanibaaGreatT
import Derived.Test.YtccmocbkpanibaaGreatPl
import Derived.Test.YtccmocbkpanibaaGreatDat
import Derived.Test.YtccmocbkpanibaaGreatShelf
/- numbers in ascending order, each once: rising, l3Different -/
namespace Go.Proofs.YtccmocbkpanibaaGreat
open Go.RowKit

theorem OI.holds {base : Nat} {w : World} {g n cap : Nat} {l : List Int} (h : OI base w (.slice (some ⟨g, 0, none⟩) n cap) l) : Go.Sort.Holds (Value.int .i64) w g 0 l.toArray := by
  intro j hj
  have hj' : j < l.length := by simpa using hj
  obtain ⟨h1, h2, _⟩ := h.at
  rw [Nat.zero_add]
  refine ⟨?_, h2 j⟩
  rw [h1 j hj', getElem!_pos l.toArray j hj]
  simp [List.getD_eq_getElem?_getD, List.getElem?_eq_getElem hj']
theorem OI.putRow {base : Nat} {w : World} {g n cap : Nat} {l : List Int} (h : OI base w (.slice (some ⟨g, 0, none⟩) n cap) l) (q : Nat) (m : List Int) (hm : m.length = l.length) :
    OI base (Go.Sort.putRow (Value.int .i64) (Go.Sort.ahead w q) g 0 m.toArray) (.slice (some ⟨g, 0, none⟩) n cap) m ∧ Chg (fun k => k = g) w (Go.Sort.putRow (Value.int .i64) (Go.Sort.ahead w q) g 0 m.toArray) := by
  obtain ⟨cur, h1, h2, h3, h4, h5, h6, h7, h8⟩ := h.row
  have hl := h.len
  have hg : (Go.Sort.putRow (Value.int .i64) (Go.Sort.ahead w q) g 0 m.toArray).heap[g]? = some (.cells (Go.Sort.putCells (Value.int .i64) 0 m.toArray cur) 3 (0, 0)) := by
    simp only [Go.Sort.putRow, Go.Sort.mapBlock, Array.getElem?_modify, Go.Sort.heap_ahead, if_true, h1]
    rfl
  refine ⟨OI.ofRow hg (by simpa [Go.Sort.putCells] using h2) ?_ (by omega) h5 h6 h7 (by omega), ⟨rfl, rfl, rfl, by simp, fun k _ hk => ?_⟩⟩
  · apply List.ext_getElem?
    intro i
    by_cases hi : i < m.length
    · have hic : i < cur.size := by omega
      rw [List.getElem?_take_of_lt hi]
      simp [Go.Sort.putCells, hi, hic]
    · rw [List.getElem?_eq_none (by simp; omega), List.getElem?_eq_none (by simp; omega)]
  · simp only [Go.Sort.putRow, Go.Sort.mapBlock, Array.getElem?_modify, Go.Sort.heap_ahead]
    rw [if_neg (fun e => hk e.symm)]
theorem chg_grow (w : World) (os : Array Obj) : Chg No w (Go.Sort.grow w os) :=
  ⟨rfl, rfl, rfl, by simp, fun k hk _ => by simp [Go.Sort.grow, Array.getElem?_append_left hk]⟩
theorem compact_diff (s : List Int) (hs : s.Pairwise (· ≤ ·)) : Lib.compact s = diffL s := by
  have get : ∀ i, i < s.length → s.toArray[i]! = s.getD i 0 := fun i hi => by
    rw [getElem!_pos _ _ (by simpa using hi)]
    simp [List.getD_eq_getElem?_getD, List.getElem?_eq_getElem hi]
  have le : ∀ i j, i ≤ j → j < s.length → s.getD i 0 ≤ s.getD j 0 := fun i j hij hj => by
    rcases Nat.lt_or_ge i j with h | h
    · have := List.pairwise_iff_getElem.1 hs i j (by omega) hj h
      simpa [List.getD_eq_getElem?_getD, List.getElem?_eq_getElem hj, List.getElem?_eq_getElem (show i < s.length by omega)] using this
    · have : i = j := by omega
      subst this; omega
  have keep : ∀ j, j < s.length → (Lib.keeps s.toArray j = true ↔ j = 0 ∨ s.getD j 0 ≠ s.getD (j - 1) 0) := fun j hj => by
    unfold Lib.keeps
    rw [decide_eq_true_eq, get j hj, get (j - 1) (by omega)]
  refine up_diff ?_ (fun x => ?_)
  · unfold Up Lib.compact Lib.compactUpTo
    rw [List.pairwise_map]
    have hr : ((List.range s.length).filter (Lib.keeps s.toArray)).Pairwise (· < ·) := List.Pairwise.filter _ List.pairwise_lt_range
    refine hr.imp_of_mem (fun {i j} hi hj hij => ?_)
    have hi' := List.mem_range.1 (List.mem_filter.1 hi).1
    have hj' := List.mem_range.1 (List.mem_filter.1 hj).1
    have hk := (keep j hj').1 (List.mem_filter.1 hj).2
    rw [get i hi', get j hj']
    have h1 := le i (j - 1) (by omega) (by omega)
    have h2 := le (j - 1) j (by omega) hj'
    rcases hk with h | h
    · omega
    · omega
  · unfold Lib.compact Lib.compactUpTo
    constructor
    · intro h
      obtain ⟨i, hi, rfl⟩ := List.mem_map.1 h
      have hi' := List.mem_range.1 (List.mem_filter.1 hi).1
      rw [get i hi', List.getD_eq_getElem?_getD, List.getElem?_eq_getElem hi']
      exact List.getElem_mem hi'
    · intro h
      obtain ⟨j, hj, rfl⟩ := List.mem_iff_getElem.1 h
      have : ∀ j, j < s.length → ∃ i, i < s.length ∧ Lib.keeps s.toArray i = true ∧ s.getD i 0 = s.getD j 0 := by
        intro j
        induction j with
        | zero => intro hj; exact ⟨0, hj, (keep 0 hj).2 (.inl rfl), rfl⟩
        | succ j ih =>
          intro hj
          by_cases e : s.getD (j + 1) 0 = s.getD j 0
          · obtain ⟨i, h1, h2, h3⟩ := ih (by omega)
            exact ⟨i, h1, h2, h3.trans e.symm⟩
          · exact ⟨j + 1, hj, (keep _ hj).2 (.inr (by simpa using e)), rfl⟩
      obtain ⟨i, h1, h2, h3⟩ := this j hj
      refine List.mem_map.2 ⟨i, List.mem_filter.2 ⟨List.mem_range.2 h1, h2⟩, ?_⟩
      rw [get i h1, h3, List.getD_eq_getElem?_getD, List.getElem?_eq_getElem hj]; rfl
theorem sort_sorted (l : List Int) : (l.mergeSort fun x y => decide (x ≤ y)).Pairwise (· ≤ ·) := by
  have := List.pairwise_mergeSort (le := fun x y : Int => decide (x ≤ y)) (fun a b c h1 h2 => by simp at *; omega) (fun a b => by simp; omega) l
  exact this.imp (fun h => by simpa using h)
theorem sort_mem (l : List Int) (x : Int) : x ∈ (l.mergeSort fun x y => decide (x ≤ y)) ↔ x ∈ l := List.mem_mergeSort
theorem compact_sort (l : List Int) : Lib.compact (l.mergeSort fun x y => decide (x ≤ y)) = diffL l := by
  rw [compact_diff _ (sort_sorted l)]
  exact up_ext (diffL_up _) (diffL_up _) (fun x => by rw [diffL_mem, diffL_mem, sort_mem])

theorem Sort_any (base : Nat) (v : Value) (l : List Int) (w : World) (h : OI base w v l) :
    Calls Tryz.prog 171 #[v] w (Ret fun r w' => r = .tuple #[] ∧ OI base w' v (l.mergeSort fun x y => decide (x ≤ y)) ∧ Chg (own v) w w') := by
  have hL := h.len
  rcases h.2.2 with ⟨rfl, h0⟩ | ⟨g, cap, cur, rfl, hb, hg, hn, hm, hs, ht⟩
  · have hl : l = [] := List.eq_nil_of_length_eq_zero h0
    subst hl
    exact (Tryz.slices_Sort_int_none none 0 w).mono (fun e w' h => ⟨_, h.1, rfl, by rw [h.2, List.mergeSort_nil]; exact OI.nil _ _, by rw [h.2]; exact Chg.refl _ _⟩)
  · have hblk := (Array.getElem?_eq_some_iff.1 hg).1
    have hml : (l.mergeSort fun x y => decide (x ≤ y)).length = l.length := List.length_mergeSort l
    refine (Tryz.slices_Sort_int g 0 cap l w h.holds hblk (by omega)).mono (fun e w' h' => ?_)
    obtain ⟨he, q, os, rfl⟩ := h'
    obtain ⟨h1, h2⟩ := h.putRow q _ hml
    exact ⟨_, he, rfl, h1.keep (chg_grow _ _), (h2.mono (fun k hk _ => own_slice.2 hk)).trans ((chg_grow _ _).mono (fun k hk _ => hk.elim))⟩

theorem Compact_any (base : Nat) (v : Value) (l : List Int) (w : World) (h : OI base w v l) :
    Calls Tryz.prog 172 #[v] w (Ret fun r w' => OI base w' r (Lib.compact l) ∧ Chg (own v) w w' ∧ ∀ q, own r q → own v q) := by
  have hL := h.len
  rcases h.2.2 with ⟨rfl, h0⟩ | ⟨g, cap, cur, rfl, hb, hg, hn, hm, hs, ht⟩
  · have hl : l = [] := List.eq_nil_of_length_eq_zero h0
    subst hl
    exact (Tryz.slices_Compact_int_empty none 0 w).mono (fun e w' h => ⟨_, h.1, by rw [h.2]; exact OI.nil _ _, by rw [h.2]; exact Chg.refl _ _, fun q hq => hq⟩)
  · have hcl : (Lib.compact l).length ≤ l.length := by
      unfold Lib.compact Lib.compactUpTo
      rw [List.length_map]
      exact Nat.le_trans (List.length_filter_le _ _) (by simp)
    refine (Tryz.slices_Compact_int g 0 cap l w h.holds (by omega) hn).mono (fun e w' h' => ?_)
    obtain ⟨he, q, rfl⟩ := h'
    obtain ⟨h1, h2⟩ := h.putRow q (Lib.compact l ++ List.replicate (l.length - (Lib.compact l).length) 0) (by simp; omega)
    have h3 := h1.pre (Lib.compact l).length (by simp)
    rw [List.take_left] at h3
    exact ⟨_, he, h3, h2.mono (fun k hk _ => own_slice.2 hk), fun q hq => own_slice.2 (own_slice.1 hq)⟩

set_option maxRecDepth 100000 in
set_option maxHeartbeats 1000000 in
theorem rising_any (A : Nat → Prop) (v : Value) (l : List Int) (w : World) (h : RI A w v l) :
    Calls Tryz.prog 151 #[v] w (Ret fun r w' => OI w.heap.size w' r (diffL l) ∧ Chg No w w') := by
  go_enter Tryz.func151, Tryz.ntmps151
  go_wp2_with fail
  refine (Clone_any A v l w h).mono ?_
  rintro e w1 ⟨v1, rfl, o1, k1⟩
  go_wp2_with fail
  refine (Sort_any w.heap.size v1 l w1 o1).mono ?_
  rintro e w2 ⟨_, rfl, rfl, o2, k2⟩
  have c2 := k1.own k2 o1 (Nat.le_refl _)
  go_wp2_with fail
  refine (Compact_any w.heap.size v1 _ w2 o2).mono ?_
  rintro e w3 ⟨v3, rfl, o3, k3, _⟩
  rw [compact_sort] at o3
  have c3 := c2.own k3 o2 (Nat.le_refl _)
  go_wp2_with fail
  go_ret
  exact ⟨_, rfl, o3, c3⟩

theorem obuild0 {o : Oper} {a : Act} {K : Act → World → Prop} {Q : Exit → Act → World → Prop} {w : World}
    (ho : o.op = .buildSlice 23 0 #[])
    (h : ∀ g w', Chg No w w' → OI w.heap.size w' (.slice (some ⟨g, 0, none⟩) 0 0) [] → g = w.heap.size → K (a.put o.dst (.slice (some ⟨g, 0, none⟩) 0 0)) w') :
    Oper.wp Tryz.prog o a w K Q := by
  have h1 := h w.heap.size (w.alloc (.cells #[] 3)) ((Chg.refl No w).alloc _) (OI.zero (Nat.le_refl _)) rfl
  unfold Oper.wp execOp
  simp only [ho]
  go_simp
  exact h1
end Go.Proofs.YtccmocbkpanibaaGreat
