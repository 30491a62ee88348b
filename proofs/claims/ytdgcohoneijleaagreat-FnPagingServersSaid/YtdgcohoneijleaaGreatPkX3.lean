import Derived.Test.YtdgcohoneijleaaGreatJ
import Derived.Test.YtdgcohoneijleaaGreatT
import Derived.Test.YtdgcohoneijleaaGreatPkX2
import Derived.Test.YtdgcohoneijleaaGreatDat
import Derived.Test.YtdgcohoneijleaaGreatPkX1
import Derived.RegionTactic
/- numbers in ascending order, each once: rising, l3Different -/
namespace Go.Proofs.YtdgcohoneijleaaGreat
open Go.RowKit

theorem OI.holds {base : Nat} {w : World} {g n cap : Nat} {l : List Int} (h : OI base w (.slice (some ⟨g, 0, none⟩) n cap) l) : Go.Sort.Holds (Value.int .i64) w g 0 l.toArray := by
  intro j hj
  have hj' : j < l.length := by simpa using hj
  obtain ⟨h1, h2, _⟩ := h.at
  rw [Nat.zero_add]
  refine ⟨?_, h2 j⟩
  rw [h1 j hj', getElem!_pos l.toArray j hj]
  simp [List.getD_eq_getElem?_getD, List.getElem?_eq_getElem hj']
theorem OI.putRow {base : Nat} {w : World} {g n cap : Nat} {l : List Int} (h : OI base w (.slice (some ⟨g, 0, none⟩) n cap) l) (q : Nat) (m : List Int) (hm : m.length = l.length) :
    OI base (Go.Sort.putRow (Value.int .i64) (Go.Sort.ahead w q) g 0 m.toArray) (.slice (some ⟨g, 0, none⟩) n cap) m ∧ Chg (fun k => k = g) w (Go.Sort.putRow (Value.int .i64) (Go.Sort.ahead w q) g 0 m.toArray) := by
  obtain ⟨cur, h1, h2, h3, h4, h5, h6, h7, h8⟩ := h.row
  have hl := h.len
  have hg : (Go.Sort.putRow (Value.int .i64) (Go.Sort.ahead w q) g 0 m.toArray).heap[g]? = some (.cells (Go.Sort.putCells (Value.int .i64) 0 m.toArray cur) 3 (0, 0)) := by
    simp only [Go.Sort.putRow, Go.Sort.mapBlock, Array.getElem?_modify, Go.Sort.heap_ahead, if_true, h1]
    rfl
  refine ⟨OI.ofRow hg (by simpa [Go.Sort.putCells] using h2) ?_ (by omega) h5 h6 h7 (by omega), ⟨rfl, rfl, rfl, by simp, fun k _ hk => ?_⟩⟩
  · apply List.ext_getElem?
    intro i
    by_cases hi : i < m.length
    · have hic : i < cur.size := by omega
      rw [List.getElem?_take_of_lt hi]
      simp [Go.Sort.putCells, hi, hic]
    · rw [List.getElem?_eq_none (by simp; omega), List.getElem?_eq_none (by simp; omega)]
  · simp only [Go.Sort.putRow, Go.Sort.mapBlock, Array.getElem?_modify, Go.Sort.heap_ahead]
    rw [if_neg (fun e => hk e.symm)]
theorem chg_grow (w : World) (os : Array Obj) : Chg No w (Go.Sort.grow w os) :=
  ⟨rfl, rfl, rfl, by simp, fun k hk _ => by simp [Go.Sort.grow, Array.getElem?_append_left hk]⟩
theorem compact_diff (s : List Int) (hs : s.Pairwise (· ≤ ·)) : Lib.compact s = diffL s := by
  have get : ∀ i, i < s.length → s.toArray[i]! = s.getD i 0 := fun i hi => by
    rw [getElem!_pos _ _ (by simpa using hi)]
    simp [List.getD_eq_getElem?_getD, List.getElem?_eq_getElem hi]
  have le : ∀ i j, i ≤ j → j < s.length → s.getD i 0 ≤ s.getD j 0 := fun i j hij hj => by
    rcases Nat.lt_or_ge i j with h | h
    · have := List.pairwise_iff_getElem.1 hs i j (by omega) hj h
      simpa [List.getD_eq_getElem?_getD, List.getElem?_eq_getElem hj, List.getElem?_eq_getElem (show i < s.length by omega)] using this
    · have : i = j := by omega
      subst this; omega
  have keep : ∀ j, j < s.length → (Lib.keeps s.toArray j = true ↔ j = 0 ∨ s.getD j 0 ≠ s.getD (j - 1) 0) := fun j hj => by
    unfold Lib.keeps
    rw [decide_eq_true_eq, get j hj, get (j - 1) (by omega)]
  refine up_diff ?_ (fun x => ?_)
  · unfold Up Lib.compact Lib.compactUpTo
    rw [List.pairwise_map]
    have hr : ((List.range s.length).filter (Lib.keeps s.toArray)).Pairwise (· < ·) := List.Pairwise.filter _ List.pairwise_lt_range
    refine hr.imp_of_mem (fun {i j} hi hj hij => ?_)
    have hi' := List.mem_range.1 (List.mem_filter.1 hi).1
    have hj' := List.mem_range.1 (List.mem_filter.1 hj).1
    have hk := (keep j hj').1 (List.mem_filter.1 hj).2
    rw [get i hi', get j hj']
    have h1 := le i (j - 1) (by omega) (by omega)
    have h2 := le (j - 1) j (by omega) hj'
    rcases hk with h | h
    · omega
    · omega
  · unfold Lib.compact Lib.compactUpTo
    constructor
    · intro h
      obtain ⟨i, hi, rfl⟩ := List.mem_map.1 h
      have hi' := List.mem_range.1 (List.mem_filter.1 hi).1
      rw [get i hi', List.getD_eq_getElem?_getD, List.getElem?_eq_getElem hi']
      exact List.getElem_mem hi'
    · intro h
      obtain ⟨j, hj, rfl⟩ := List.mem_iff_getElem.1 h
      have : ∀ j, j < s.length → ∃ i, i < s.length ∧ Lib.keeps s.toArray i = true ∧ s.getD i 0 = s.getD j 0 := by
        intro j
        induction j with
        | zero => intro hj; exact ⟨0, hj, (keep 0 hj).2 (.inl rfl), rfl⟩
        | succ j ih =>
          intro hj
          by_cases e : s.getD (j + 1) 0 = s.getD j 0
          · obtain ⟨i, h1, h2, h3⟩ := ih (by omega)
            exact ⟨i, h1, h2, h3.trans e.symm⟩
          · exact ⟨j + 1, hj, (keep _ hj).2 (.inr (by simpa using e)), rfl⟩
      obtain ⟨i, h1, h2, h3⟩ := this j hj
      refine List.mem_map.2 ⟨i, List.mem_filter.2 ⟨List.mem_range.2 h1, h2⟩, ?_⟩
      rw [get i h1, h3, List.getD_eq_getElem?_getD, List.getElem?_eq_getElem hj]; rfl
theorem sort_sorted (l : List Int) : (l.mergeSort fun x y => decide (x ≤ y)).Pairwise (· ≤ ·) := by
  have := List.pairwise_mergeSort (le := fun x y : Int => decide (x ≤ y)) (fun a b c h1 h2 => by simp at *; omega) (fun a b => by simp; omega) l
  exact this.imp (fun h => by simpa using h)
theorem sort_mem (l : List Int) (x : Int) : x ∈ (l.mergeSort fun x y => decide (x ≤ y)) ↔ x ∈ l := List.mem_mergeSort
theorem compact_sort (l : List Int) : Lib.compact (l.mergeSort fun x y => decide (x ≤ y)) = diffL l := by
  rw [compact_diff _ (sort_sorted l)]
  exact up_ext (diffL_up _) (diffL_up _) (fun x => by rw [diffL_mem, diffL_mem, sort_mem])

theorem Sort_any (base : Nat) (v : Value) (l : List Int) (w : World) (h : OI base w v l) :
    Calls Tryz.prog 78 #[v] w (Ret fun r w' => r = .tuple #[] ∧ OI base w' v (l.mergeSort fun x y => decide (x ≤ y)) ∧ Chg (own v) w w') := by
  have hL := h.len
  rcases h.2.2 with ⟨rfl, h0⟩ | ⟨g, cap, cur, rfl, hb, hg, hn, hm, hs, ht⟩
  · have hl : l = [] := List.eq_nil_of_length_eq_zero h0
    subst hl
    exact (Tryz.slices_Sort_int_none none 0 w).mono (fun e w' h => ⟨_, h.1, rfl, by rw [h.2, List.mergeSort_nil]; exact OI.nil _ _, by rw [h.2]; exact Chg.refl _ _⟩)
  · have hblk := (Array.getElem?_eq_some_iff.1 hg).1
    have hml : (l.mergeSort fun x y => decide (x ≤ y)).length = l.length := List.length_mergeSort l
    refine (Tryz.slices_Sort_int g 0 cap l w h.holds hblk (by omega)).mono (fun e w' h' => ?_)
    obtain ⟨he, q, os, rfl⟩ := h'
    obtain ⟨h1, h2⟩ := h.putRow q _ hml
    exact ⟨_, he, rfl, h1.keep (chg_grow _ _), (h2.mono (fun k hk _ => own_slice.2 hk)).trans ((chg_grow _ _).mono (fun k hk _ => hk.elim))⟩

theorem Compact_any (base : Nat) (v : Value) (l : List Int) (w : World) (h : OI base w v l) :
    Calls Tryz.prog 80 #[v] w (Ret fun r w' => OI base w' r (Lib.compact l) ∧ Chg (own v) w w' ∧ ∀ q, own r q → own v q) := by
  have hL := h.len
  rcases h.2.2 with ⟨rfl, h0⟩ | ⟨g, cap, cur, rfl, hb, hg, hn, hm, hs, ht⟩
  · have hl : l = [] := List.eq_nil_of_length_eq_zero h0
    subst hl
    exact (Tryz.slices_Compact_int_empty none 0 w).mono (fun e w' h => ⟨_, h.1, by rw [h.2]; exact OI.nil _ _, by rw [h.2]; exact Chg.refl _ _, fun q hq => hq⟩)
  · have hcl : (Lib.compact l).length ≤ l.length := by
      unfold Lib.compact Lib.compactUpTo
      rw [List.length_map]
      exact Nat.le_trans (List.length_filter_le _ _) (by simp)
    refine (Tryz.slices_Compact_int g 0 cap l w h.holds (by omega) hn).mono (fun e w' h' => ?_)
    obtain ⟨he, q, rfl⟩ := h'
    obtain ⟨h1, h2⟩ := h.putRow q (Lib.compact l ++ List.replicate (l.length - (Lib.compact l).length) 0) (by simp; omega)
    have h3 := h1.pre (Lib.compact l).length (by simp)
    rw [List.take_left] at h3
    exact ⟨_, he, h3, h2.mono (fun k hk _ => own_slice.2 hk), fun q hq => own_slice.2 (own_slice.1 hq)⟩

set_option maxRecDepth 100000 in
set_option maxHeartbeats 1000000 in
theorem rising_any (A : Nat → Prop) (v : Value) (l : List Int) (w : World) (h : RI A w v l) :
    Calls Tryz.prog 56 #[v] w (Ret fun r w' => OI w.heap.size w' r (diffL l) ∧ Chg No w w') := by
  go_enter Tryz.func56, Tryz.ntmps56
  go_wp2_with fail
  refine (Clone_any A v l w h).mono ?_
  rintro e w1 ⟨v1, rfl, o1, k1⟩
  go_wp2_with fail
  refine (Sort_any w.heap.size v1 l w1 o1).mono ?_
  rintro e w2 ⟨_, rfl, rfl, o2, k2⟩
  have c2 := k1.own k2 o1 (Nat.le_refl _)
  go_wp2_with fail
  refine (Compact_any w.heap.size v1 _ w2 o2).mono ?_
  rintro e w3 ⟨v3, rfl, o3, k3, _⟩
  rw [compact_sort] at o3
  have c3 := c2.own k3 o2 (Nat.le_refl _)
  go_wp2_with fail
  go_ret
  exact ⟨_, rfl, o3, c3⟩

end Go.Proofs.YtdgcohoneijleaaGreat

/- fractions: greatest common divisors, Fracs made of numbers -/
namespace Go.Proofs.YtdgcohoneijleaaGreat
open Go.RowKit

set_option maxRecDepth 100000 in
set_option maxHeartbeats 400000 in
theorem l1Most_any (a b : Int) (w : World) :
    Calls Tryz.prog 38 #[.int .i64 a, .int .i64 b] w fun e w' => e = .returned (.int .i64 (max a b)) ∧ w = w' := by
  by_cases h : b < a
  all_goals
    go_enter Tryz.func38, Tryz.ntmps38
    go_wp2
    go_ret
    exact ⟨ret_int (by omega), rfl⟩

/-- a block of cells known one by one -/
structure BoxN (w : World) (b : Nat) (vs : List Value) : Prop where
  c : ∀ i v, vs[i]? = some v → w.cell? ⟨b, i, none⟩ = some v
  fr : ∀ o, w.frozen? ⟨b, o, none⟩ = false
  lt : b < w.heap.size
theorem BoxN.step {S : Nat → Prop} {w w' : World} {b : Nat} {vs : List Value} (h : BoxN w b vs) (hc : Chg S w w') (hS : ¬ S b) : BoxN w' b vs :=
  ⟨fun i v hi => (hc.cellD b i h.lt hS).trans (h.c i v hi), fun o => (World.frozen?_of_block (hc.block b h.lt hS)).trans (h.fr o), Nat.lt_of_lt_of_le h.lt hc.size⟩
theorem BoxN.keep {w w' : World} {b : Nat} {vs : List Value} (h : BoxN w b vs) (hc : Chg No w w') : BoxN w' b vs := h.step hc (fun e => e)
theorem BoxN.new (w : World) (xs : Array Value) (t : TypeId) : BoxN (w.alloc (.cells xs t)) w.heap.size xs.toList :=
  ⟨fun i v hi => by rw [World.cell?_alloc_new]; simpa using hi, fun o => World.frozen?_alloc_new _ _ _ _, by simp⟩
end Go.Proofs.YtdgcohoneijleaaGreat

/- what the laws' helpers do with slices of slices of int -/
namespace Go.Proofs.YtdgcohoneijleaaGreat
open Go.RowKit

def tot : List (List Int) → Nat
  | [] => 0
  | l :: ll => l.length + tot ll
theorem tot_append (a b : List (List Int)) : tot (a ++ b) = tot a + tot b := by
  induction a with
  | nil => simp [tot]
  | cons x a ih => simp [tot, ih]; omega
theorem tot_take (ll : List (List Int)) (k : Nat) : tot (ll.take k) ≤ tot ll := by
  have := tot_append (ll.take k) (ll.drop k)
  rw [List.take_append_drop] at this
  omega
theorem tot_succ (ll : List (List Int)) (k : Nat) (h : k < ll.length) : tot (ll.take (k + 1)) = tot (ll.take k) + (ll.getD k []).length := by
  rw [List.take_succ_eq_append_getElem h, tot_append]
  simp [tot, List.getD_eq_getElem?_getD, List.getElem?_eq_getElem h]
end Go.Proofs.YtdgcohoneijleaaGreat

/- markIntSS, heldIntSS -/
namespace Go.Proofs.YtdgcohoneijleaaGreat
open Go.RowKit

/-- one of its slices is written -/
theorem OII.view {base : Nat} {w : World} {v : Value} {ll : List (List Int)} {F : Nat → Prop} (h : OII base w v ll F) : ∃ a cap, v = .slice a ll.length cap ∧ ll.length ≤ cap ∧ cap ≤ 9223372036854775807 ∧
    ∀ i, i < ll.length → ∃ g x, a = some ⟨g, 0, none⟩ ∧ g < w.heap.size ∧ w.cell? ⟨g, i, none⟩ = some x ∧ OI base w x (ll.getD i []) ∧ (∀ q, own x q → F q) ∧ F g ∧ ¬ own x g ∧
      ∀ w' l', OI base w' x l' → Chg (own x) w w' → OII base w' v (ll.set i l') F := by
  obtain ⟨vs, h1, h2, h3, h4, h5, h6⟩ := h
  obtain ⟨a, cap, rfl, hc1, hc2, _, hvw⟩ := h2.view
  refine ⟨a, cap, rfl, hc1, hc2, fun i hi => ?_⟩
  obtain ⟨g, rfl, hg1, hg2, hcell, _⟩ := hvw (by omega)
  refine ⟨g, vs.getD i undef, rfl, hg2, hcell i (by omega), h3 i hi, fun q hq => (h6 q).2 (.inr ⟨i, hi, hq⟩), (h6 g).2 (.inl (own_slice.2 rfl)), fun hq => h4 i hi g (own_slice.2 rfl) hq, fun w' l' ho hc => ?_⟩
  refine ⟨vs, by simpa using h1, by simpa using h2.step hc (fun q hq hq' => h4 i hi q hq hq'), fun j hj => ?_, fun j hj => h4 j (by simpa using hj), fun j j' hjj hj' => h5 j j' hjj (by simpa using hj'), fun q => by simpa using h6 q⟩
  have hj : j < ll.length := by simpa using hj
  by_cases hij : j = i
  · subst hij
    rw [show (ll.set j l').getD j [] = l' by rw [List.getD_eq_getElem?_getD, List.getElem?_set_self hi]; rfl]
    exact ho
  · rw [show (ll.set i l').getD j [] = ll.getD j [] by simp only [List.getD_eq_getElem?_getD, List.getElem?_set_ne (Ne.symm hij)]]
    refine (h3 j hj).step hc (fun q hq hq' => ?_)
    rcases Nat.lt_or_ge i j with h | h
    · exact h5 i j h hj q hq' hq
    · exact h5 j i (by omega) hi q hq hq'
end Go.Proofs.YtdgcohoneijleaaGreat

/- ContentsOf, both sides -/
namespace Go.Proofs.YtdgcohoneijleaaGreat
open Go.RowKit

/-- a call at an operation -/
theorem ocall {o : Oper} {a : Act} {K : Act → World → Prop} {Q : Exit → Act → World → Prop} {w : World} {f : FuncId} {args : Array Value} {φ : Value → World → Prop}
    (ho : (execOp a.eval o).run Tryz.prog w = .ok (.enter f args) w) (h : Calls Tryz.prog f args w (Ret φ)) (hk : ∀ v w', φ v w' → K (a.put o.dst v) w') : Oper.wp Tryz.prog o a w K Q := by
  unfold Oper.wp
  rw [ho]
  refine h.mono (fun e w' hr => ?_)
  obtain ⟨v, rfl, hp⟩ := hr
  exact hk v w' hp
theorem OII.open {base : Nat} {w : World} {v : Value} {ll : List (List Int)} {F : Nat → Prop} (h : OII base w v ll F) : ∃ vs, vs.length = ll.length ∧ OS 25 1 base w v ll.length vs ∧ (∀ i, i < ll.length → OI base w (vs.getD i undef) (ll.getD i [])) ∧
    (∀ i, i < ll.length → ∀ q, own v q → ¬ own (vs.getD i undef) q) ∧ (∀ i j, i < j → j < ll.length → ∀ q, own (vs.getD i undef) q → ¬ own (vs.getD j undef) q) ∧
    ∀ q, F q ↔ own v q ∨ ∃ i, i < ll.length ∧ own (vs.getD i undef) q := h
end Go.Proofs.YtdgcohoneijleaaGreat
