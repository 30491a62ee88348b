import Derived.Test.YtmfhlojmoehmiaaGreatJ
import Derived.Test.YtmfhlojmoehmiaaGreatT
import Derived.Test.YtmfhlojmoehmiaaGreatPl
import Derived.Test.YtmfhlojmoehmiaaGreatDat
import Derived.Test.YtmfhlojmoehmiaaGreatShelf
/- numbers in ascending order, each once: rising, l3Different -/
namespace Go.Proofs.YtmfhlojmoehmiaaGreat
open Go.RowKit

theorem OI.holds {base : Nat} {w : World} {g n cap : Nat} {l : List Int} (h : OI base w (.slice (some ⟨g, 0, none⟩) n cap) l) : Go.Sort.Holds (Value.int .i64) w g 0 l.toArray := by
  intro j hj
  have hj' : j < l.length := by simpa using hj
  obtain ⟨h1, h2, _⟩ := h.at
  rw [Nat.zero_add]
  refine ⟨?_, h2 j⟩
  rw [h1 j hj', getElem!_pos l.toArray j hj]
  simp [List.getD_eq_getElem?_getD, List.getElem?_eq_getElem hj']
theorem OI.putRow {base : Nat} {w : World} {g n cap : Nat} {l : List Int} (h : OI base w (.slice (some ⟨g, 0, none⟩) n cap) l) (q : Nat) (m : List Int) (hm : m.length = l.length) :
    OI base (Go.Sort.putRow (Value.int .i64) (Go.Sort.ahead w q) g 0 m.toArray) (.slice (some ⟨g, 0, none⟩) n cap) m ∧ Chg (fun k => k = g) w (Go.Sort.putRow (Value.int .i64) (Go.Sort.ahead w q) g 0 m.toArray) := by
  obtain ⟨cur, h1, h2, h3, h4, h5, h6, h7, h8⟩ := h.row
  have hl := h.len
  have hg : (Go.Sort.putRow (Value.int .i64) (Go.Sort.ahead w q) g 0 m.toArray).heap[g]? = some (.cells (Go.Sort.putCells (Value.int .i64) 0 m.toArray cur) 3 (0, 0)) := by
    simp only [Go.Sort.putRow, Go.Sort.mapBlock, Array.getElem?_modify, Go.Sort.heap_ahead, if_true, h1]
    rfl
  refine ⟨OI.ofRow hg (by simpa [Go.Sort.putCells] using h2) ?_ (by omega) h5 h6 h7 (by omega), ⟨rfl, rfl, rfl, by simp, fun k _ hk => ?_⟩⟩
  · apply List.ext_getElem?
    intro i
    by_cases hi : i < m.length
    · have hic : i < cur.size := by omega
      rw [List.getElem?_take_of_lt hi]
      simp [Go.Sort.putCells, hi, hic]
    · rw [List.getElem?_eq_none (by simp; omega), List.getElem?_eq_none (by simp; omega)]
  · simp only [Go.Sort.putRow, Go.Sort.mapBlock, Array.getElem?_modify, Go.Sort.heap_ahead]
    rw [if_neg (fun e => hk e.symm)]
theorem chg_grow (w : World) (os : Array Obj) : Chg No w (Go.Sort.grow w os) :=
  ⟨rfl, rfl, rfl, by simp, fun k hk _ => by simp [Go.Sort.grow, Array.getElem?_append_left hk]⟩
theorem compact_diff (s : List Int) (hs : s.Pairwise (· ≤ ·)) : Lib.compact s = diffL s := by
  have get : ∀ i, i < s.length → s.toArray[i]! = s.getD i 0 := fun i hi => by
    rw [getElem!_pos _ _ (by simpa using hi)]
    simp [List.getD_eq_getElem?_getD, List.getElem?_eq_getElem hi]
  have le : ∀ i j, i ≤ j → j < s.length → s.getD i 0 ≤ s.getD j 0 := fun i j hij hj => by
    rcases Nat.lt_or_ge i j with h | h
    · have := List.pairwise_iff_getElem.1 hs i j (by omega) hj h
      simpa [List.getD_eq_getElem?_getD, List.getElem?_eq_getElem hj, List.getElem?_eq_getElem (show i < s.length by omega)] using this
    · have : i = j := by omega
      subst this; omega
  have keep : ∀ j, j < s.length → (Lib.keeps s.toArray j = true ↔ j = 0 ∨ s.getD j 0 ≠ s.getD (j - 1) 0) := fun j hj => by
    unfold Lib.keeps
    rw [decide_eq_true_eq, get j hj, get (j - 1) (by omega)]
  refine up_diff ?_ (fun x => ?_)
  · unfold Up Lib.compact Lib.compactUpTo
    rw [List.pairwise_map]
    have hr : ((List.range s.length).filter (Lib.keeps s.toArray)).Pairwise (· < ·) := List.Pairwise.filter _ List.pairwise_lt_range
    refine hr.imp_of_mem (fun {i j} hi hj hij => ?_)
    have hi' := List.mem_range.1 (List.mem_filter.1 hi).1
    have hj' := List.mem_range.1 (List.mem_filter.1 hj).1
    have hk := (keep j hj').1 (List.mem_filter.1 hj).2
    rw [get i hi', get j hj']
    have h1 := le i (j - 1) (by omega) (by omega)
    have h2 := le (j - 1) j (by omega) hj'
    rcases hk with h | h
    · omega
    · omega
  · unfold Lib.compact Lib.compactUpTo
    constructor
    · intro h
      obtain ⟨i, hi, rfl⟩ := List.mem_map.1 h
      have hi' := List.mem_range.1 (List.mem_filter.1 hi).1
      rw [get i hi', List.getD_eq_getElem?_getD, List.getElem?_eq_getElem hi']
      exact List.getElem_mem hi'
    · intro h
      obtain ⟨j, hj, rfl⟩ := List.mem_iff_getElem.1 h
      have : ∀ j, j < s.length → ∃ i, i < s.length ∧ Lib.keeps s.toArray i = true ∧ s.getD i 0 = s.getD j 0 := by
        intro j
        induction j with
        | zero => intro hj; exact ⟨0, hj, (keep 0 hj).2 (.inl rfl), rfl⟩
        | succ j ih =>
          intro hj
          by_cases e : s.getD (j + 1) 0 = s.getD j 0
          · obtain ⟨i, h1, h2, h3⟩ := ih (by omega)
            exact ⟨i, h1, h2, h3.trans e.symm⟩
          · exact ⟨j + 1, hj, (keep _ hj).2 (.inr (by simpa using e)), rfl⟩
      obtain ⟨i, h1, h2, h3⟩ := this j hj
      refine List.mem_map.2 ⟨i, List.mem_filter.2 ⟨List.mem_range.2 h1, h2⟩, ?_⟩
      rw [get i h1, h3, List.getD_eq_getElem?_getD, List.getElem?_eq_getElem hj]; rfl
theorem sort_sorted (l : List Int) : (l.mergeSort fun x y => decide (x ≤ y)).Pairwise (· ≤ ·) := by
  have := List.pairwise_mergeSort (le := fun x y : Int => decide (x ≤ y)) (fun a b c h1 h2 => by simp at *; omega) (fun a b => by simp; omega) l
  exact this.imp (fun h => by simpa using h)
theorem sort_mem (l : List Int) (x : Int) : x ∈ (l.mergeSort fun x y => decide (x ≤ y)) ↔ x ∈ l := List.mem_mergeSort
theorem compact_sort (l : List Int) : Lib.compact (l.mergeSort fun x y => decide (x ≤ y)) = diffL l := by
  rw [compact_diff _ (sort_sorted l)]
  exact up_ext (diffL_up _) (diffL_up _) (fun x => by rw [diffL_mem, diffL_mem, sort_mem])

theorem Sort_any (base : Nat) (v : Value) (l : List Int) (w : World) (h : OI base w v l) :
    Calls Tryz.prog 178 #[v] w (Ret fun r w' => r = .tuple #[] ∧ OI base w' v (l.mergeSort fun x y => decide (x ≤ y)) ∧ Chg (own v) w w') := by
  have hL := h.len
  rcases h.2.2 with ⟨rfl, h0⟩ | ⟨g, cap, cur, rfl, hb, hg, hn, hm, hs, ht⟩
  · have hl : l = [] := List.eq_nil_of_length_eq_zero h0
    subst hl
    exact (Tryz.slices_Sort_int_none none 0 w).mono (fun e w' h => ⟨_, h.1, rfl, by rw [h.2, List.mergeSort_nil]; exact OI.nil _ _, by rw [h.2]; exact Chg.refl _ _⟩)
  · have hblk := (Array.getElem?_eq_some_iff.1 hg).1
    have hml : (l.mergeSort fun x y => decide (x ≤ y)).length = l.length := List.length_mergeSort l
    refine (Tryz.slices_Sort_int g 0 cap l w h.holds hblk (by omega)).mono (fun e w' h' => ?_)
    obtain ⟨he, q, os, rfl⟩ := h'
    obtain ⟨h1, h2⟩ := h.putRow q _ hml
    exact ⟨_, he, rfl, h1.keep (chg_grow _ _), (h2.mono (fun k hk _ => own_slice.2 hk)).trans ((chg_grow _ _).mono (fun k hk _ => hk.elim))⟩

theorem Compact_any (base : Nat) (v : Value) (l : List Int) (w : World) (h : OI base w v l) :
    Calls Tryz.prog 179 #[v] w (Ret fun r w' => OI base w' r (Lib.compact l) ∧ Chg (own v) w w' ∧ ∀ q, own r q → own v q) := by
  have hL := h.len
  rcases h.2.2 with ⟨rfl, h0⟩ | ⟨g, cap, cur, rfl, hb, hg, hn, hm, hs, ht⟩
  · have hl : l = [] := List.eq_nil_of_length_eq_zero h0
    subst hl
    exact (Tryz.slices_Compact_int_empty none 0 w).mono (fun e w' h => ⟨_, h.1, by rw [h.2]; exact OI.nil _ _, by rw [h.2]; exact Chg.refl _ _, fun q hq => hq⟩)
  · have hcl : (Lib.compact l).length ≤ l.length := by
      unfold Lib.compact Lib.compactUpTo
      rw [List.length_map]
      exact Nat.le_trans (List.length_filter_le _ _) (by simp)
    refine (Tryz.slices_Compact_int g 0 cap l w h.holds (by omega) hn).mono (fun e w' h' => ?_)
    obtain ⟨he, q, rfl⟩ := h'
    obtain ⟨h1, h2⟩ := h.putRow q (Lib.compact l ++ List.replicate (l.length - (Lib.compact l).length) 0) (by simp; omega)
    have h3 := h1.pre (Lib.compact l).length (by simp)
    rw [List.take_left] at h3
    exact ⟨_, he, h3, h2.mono (fun k hk _ => own_slice.2 hk), fun q hq => own_slice.2 (own_slice.1 hq)⟩

set_option maxRecDepth 100000 in
set_option maxHeartbeats 1000000 in
theorem rising_any (A : Nat → Prop) (v : Value) (l : List Int) (w : World) (h : RI A w v l) :
    Calls Tryz.prog 114 #[v] w (Ret fun r w' => OI w.heap.size w' r (diffL l) ∧ Chg No w w') := by
  go_enter Tryz.func114, Tryz.ntmps114
  go_wp2_with fail
  refine (Clone_any A v l w h).mono ?_
  rintro e w1 ⟨v1, rfl, o1, k1⟩
  go_wp2_with fail
  refine (Sort_any w.heap.size v1 l w1 o1).mono ?_
  rintro e w2 ⟨_, rfl, rfl, o2, k2⟩
  have c2 := k1.own k2 o1 (Nat.le_refl _)
  go_wp2_with fail
  refine (Compact_any w.heap.size v1 _ w2 o2).mono ?_
  rintro e w3 ⟨v3, rfl, o3, k3, _⟩
  rw [compact_sort] at o3
  have c3 := c2.own k3 o2 (Nat.le_refl _)
  go_wp2_with fail
  go_ret
  exact ⟨_, rfl, o3, c3⟩

theorem obuild0 {o : Oper} {a : Act} {K : Act → World → Prop} {Q : Exit → Act → World → Prop} {w : World}
    (ho : o.op = .buildSlice 23 0 #[])
    (h : ∀ g w', Chg No w w' → OI w.heap.size w' (.slice (some ⟨g, 0, none⟩) 0 0) [] → g = w.heap.size → K (a.put o.dst (.slice (some ⟨g, 0, none⟩) 0 0)) w') :
    Oper.wp Tryz.prog o a w K Q := by
  have h1 := h w.heap.size (w.alloc (.cells #[] 3)) ((Chg.refl No w).alloc _) (OI.zero (Nat.le_refl _)) rfl
  unfold Oper.wp execOp
  simp only [ho]
  go_simp
  exact h1
set_option maxRecDepth 100000 in
set_option maxHeartbeats 1000000 in
theorem l1Put_any (base : Nat) (v : Value) (l : List Int) (n : Int) (w : World) (h : OI base w v l) (hb : base ≤ w.heap.size) (hl : l.length < 17592186044416) :
    Calls Tryz.prog 172 #[v, .int .i64 n] w (Ret fun r w' => OI base w' r (putL l n) ∧ Chg No w w' ∧ ∀ q, own r q → own v q ∨ w.heap.size ≤ q) := by
  have hrd := h.readNo
  obtain ⟨a, cap, rfl, hcap, hmax, hlen, _, hc⟩ := id hrd
  go_enter Tryz.func172, Tryz.ntmps172
  go_wp2_with fail
  go_loop [5] (fun i => ∃ k : Nat, k ≤ l.length ∧ i = .int .i64 k ∧ Hid (∀ i, i < k → l.getD i 0 < n)) (fun i => l.length - (intOf i).toNat)
  case atStart => exact ⟨0, Nat.zero_le _, rfl, Lib.hid (fun i hi => absurd hi (Nat.not_lt_zero i))⟩
  case round =>
    obtain ⟨k, hk, rfl, H⟩ := hrel
    have hk0 : (0 : Int) ≤ (k : Int) := Int.natCast_nonneg _
    by_cases hlt : k < l.length
    · obtain ⟨b, off, rfl, _, _, hcell⟩ := hc (by intro e; simp [e] at hlt)
      have hck := hcell k hlt
      obtain ⟨y, hy⟩ : ∃ y, l.getD k 0 = y := ⟨_, rfl⟩
      rw [hy] at hck
      have HY := Lib.hid hy
      clear hy hcell hc
      by_cases hyn : y < n
      · have HK : Hid (∀ i, i < k + 1 → l.getD i 0 < n) := Lib.hid (fun i hi => by
          by_cases e : i = k
          · rw [e, HY.out]; exact hyn
          · exact H.out i (by omega))
        go_wp2_with fail
        go_round
        case rel => exact ⟨k + 1, by omega, by go_num, HK⟩
        case measure => simp [intOf]; omega
      · have hsp := putL_split n k (by omega) H.out (fun _ => by rw [HY.out]; exact hyn)
        rw [HY.out] at hsp
        by_cases hye : y = n
        · have HP : Hid (putL l n = l) := Lib.hid (by rw [hsp, if_pos ⟨hlt, hye⟩])
          subst hye
          clear hsp
          go_wp2_with fail
          go_ret
          exact ⟨_, rfl, by rw [HP.out]; exact h, Chg.refl _ _, fun q hq => .inl hq⟩
        · have HP : Hid (putL l n = l.take k ++ n :: l.drop k) := Lib.hid (by rw [hsp, if_neg (fun e => hye e.2)])
          have hbe : (y == n) = false := by rw [beq_eq_false_iff_ne]; exact hye
          clear hsp
          obtain ⟨x1, hx1, hR1⟩ := hrd.upto k _ rfl (by omega)
          obtain ⟨x2, hx2, hR2⟩ := hrd.from k _ rfl (by omega)
          go_wp2_with fail
          refine wp_region_K (S := fun _ => True) (k := 11) (by kernel_rfl) ?_
          have hS : (fun _ : World => True) w := trivial
          have c0 : Chg No w w.drew := (Chg.refl No w).drew
          have hbd : base ≤ w.drew.heap.size := hb
          have hwd : w.drew.heap.size = w.heap.size := rfl
          generalize w.drew = W at c0 hbd hwd ⊢
          refine wpAnyK_take0 1 (.slice (some ⟨b, off, none⟩) l.length cap) rfl (by kernel_rfl) (fun _ _ _ h => h) hS rfl (by intro w; go_simp) ?_
          simp only [List.getElem_toArray, List.getElem_cons_succ, List.getElem_cons_zero, Act.put, List.setIfInBounds_toArray, List.set_cons_zero, List.set_cons_succ]
          refine wpAnyK_take0 2 (.int .i64 (k : Int)) rfl (by kernel_rfl) (fun _ _ _ h => h) hS rfl (by intro w; go_simp) ?_
          simp only [List.getElem_toArray, List.getElem_cons_succ, List.getElem_cons_zero, Act.put, List.setIfInBounds_toArray, List.set_cons_zero, List.set_cons_succ]
          refine wpAnyK_take0 3 (x1) rfl (by kernel_rfl) (fun _ _ _ h => h) hS rfl (by intro w; go_simp) ?_
          simp only [List.getElem_toArray, List.getElem_cons_succ, List.getElem_cons_zero, Act.put, List.setIfInBounds_toArray, List.set_cons_zero, List.set_cons_succ]
          refine wpAnyK_take0 5 (.int .i64 n) rfl (by kernel_rfl) (fun _ _ _ h => h) hS rfl (by intro w; go_simp) ?_
          simp only [List.getElem_toArray, List.getElem_cons_succ, List.getElem_cons_zero, Act.put, List.setIfInBounds_toArray, List.set_cons_zero, List.set_cons_succ]
          refine wpAnyK_take0 8 (.slice (some ⟨b, off, none⟩) l.length cap) rfl (by kernel_rfl) (fun _ _ _ h => h) hS rfl (by intro w; go_simp) ?_
          simp only [List.getElem_toArray, List.getElem_cons_succ, List.getElem_cons_zero, Act.put, List.setIfInBounds_toArray, List.set_cons_zero, List.set_cons_succ]
          refine wpAnyK_take0 9 (.int .i64 (k : Int)) rfl (by kernel_rfl) (fun _ _ _ h => h) hS rfl (by intro w; go_simp) ?_
          simp only [List.getElem_toArray, List.getElem_cons_succ, List.getElem_cons_zero, Act.put, List.setIfInBounds_toArray, List.set_cons_zero, List.set_cons_succ]
          refine wpAnyK_take0 10 (x2) rfl (by kernel_rfl) (fun _ _ _ h => h) hS rfl (by intro w; go_simp) ?_
          simp only [List.getElem_toArray, List.getElem_cons_succ, List.getElem_cons_zero, Act.put, List.setIfInBounds_toArray, List.set_cons_zero, List.set_cons_succ]
          refine wpAnyK_2 0 6 (by kernel_rfl) (wpOpK' rfl rfl ?_) (wpOpK' rfl rfl ?_)
          · intro K hK
            refine obuild0 rfl (fun g0 W0 k0 o0 z0 => hK.out _ _ trivial ?_)
            clear hK K
            simp only [List.getElem_toArray, List.getElem_cons_zero, Act.put, List.setIfInBounds_toArray, List.set_cons_zero, List.set_cons_succ]
            refine wpAnyK_2 4 6 (by kernel_rfl) (wpOpK' rfl rfl ?_) (wpOpK' rfl rfl ?_)
            · intro K hK
              refine oapp (.tmp 33) (.tmp 36) rfl o0 (hR1.keep (c0.keep k0)) rfl rfl (by simp; omega) k0.size (fun v1 W1 h1 k1 f1 => hK.out _ _ trivial ?_)
              clear hK K
              simp only [List.getElem_toArray, List.getElem_cons_succ, List.getElem_cons_zero, Act.put, List.setIfInBounds_toArray, List.set_cons_zero, List.set_cons_succ]
              refine wpAnyK_1 6 (by kernel_rfl) (wpOpK' rfl rfl ?_)
              intro K hK
              refine obuild (.tmp 38) n rfl rfl (fun g2 W2 k2 hg lg => hK.out _ _ trivial ?_)
              clear hK K
              simp only [List.getElem_toArray, List.getElem_cons_succ, List.getElem_cons_zero, Act.put, List.setIfInBounds_toArray, List.set_cons_zero, List.set_cons_succ]
              have c1 : Chg No w W1 := (c0.keep k0).own k1 o0 (Nat.le_of_eq hwd.symm)
              have c2 := c1.keep k2
              have h2 := h1.keep k2
              have r2 : RI No W2 _ [n] := RI.one hg (Nat.le_refl 1) (by decide) (fun e => e)
              have hX : w.heap.size ≤ W.heap.size := Nat.le_of_eq hwd.symm
              rw [List.nil_append] at h2
              refine wpAnyK_1 7 (by kernel_rfl) (wpOpK' rfl rfl ?_)
              intro K hK
              have hbz := c2.size
              refine oapp (.tmp 37) (.tmp 39) rfl h2 r2 rfl rfl (by simp; omega) (by first | exact Nat.le_trans k0.size (Nat.le_trans k1.size k2.size) | exact Nat.le_trans k0.size (Nat.le_trans k2.size k1.size) | exact Nat.le_trans k0.size k1.size) (fun v3 W3 h3 k3 f3 => hK.out _ _ trivial ?_)
              clear hK K
              simp only [List.getElem_toArray, List.getElem_cons_succ, List.getElem_cons_zero, Act.put, List.setIfInBounds_toArray, List.set_cons_zero, List.set_cons_succ]
              have hX := hX
              have c3 := c2.own k3 h2 hX
              refine wpAnyK_tail 11 rfl (by kernel_rfl) ?_
              simp only [List.drop_succ_cons, List.drop_zero]
              go_wp2_with (at_builtin; refine wapp rfl (.tmp 40) (.tmp 43) rfl h3 (hR2.keep c3) rfl rfl (by simp; omega) (Nat.le_trans (by first | exact Nat.le_trans k0.size (Nat.le_trans k1.size k2.size) | exact Nat.le_trans k0.size (Nat.le_trans k2.size k1.size) | exact Nat.le_trans k0.size k1.size) k3.size) ?_)
              intro v4 W4 h4 k4 f4
              go_wp2_with fail
              go_ret
              exact ⟨_, rfl, by rw [HP.out]; exact (by simpa using h4.weak (by omega : base ≤ _)), c3.own k4 h3 hX, fun q hq => .inr (by have h5 := (h4.lt q hq).1; omega)⟩
            · intro K hK
              refine obuild (.tmp 38) n rfl rfl (fun g2 W2 k2 hg lg => hK.out _ _ trivial ?_)
              clear hK K
              simp only [List.getElem_toArray, List.getElem_cons_succ, List.getElem_cons_zero, Act.put, List.setIfInBounds_toArray, List.set_cons_zero, List.set_cons_succ]
              have r1 : RI (own (.slice (some ⟨g0, 0, none⟩) 0 0)) W2 _ [n] := RI.one hg (Nat.le_refl 1) (by decide) (fun e => by have := (o0.lt _ e).2; omega)
              refine wpAnyK_1 4 (by kernel_rfl) (wpOpK' rfl rfl ?_)
              intro K hK
              have c2 := (c0.keep k0).keep k2
              have o2 := o0.keep k2
              refine oapp (.tmp 33) (.tmp 36) rfl o2 (hR1.keep c2) rfl rfl (by simp; omega) (Nat.le_trans k0.size k2.size) (fun v1 W1 h1 k1 f1 => hK.out _ _ trivial ?_)
              clear hK K
              simp only [List.getElem_toArray, List.getElem_cons_succ, List.getElem_cons_zero, Act.put, List.setIfInBounds_toArray, List.set_cons_zero, List.set_cons_succ]
              have r2 := (r1.step k1 (fun _ e => e)).weak (B := No) (fun _ e _ => e.elim)
              have h2 := h1
              have c2 := c2.own k1 o2 (Nat.le_of_eq hwd.symm)
              have hX : w.heap.size ≤ W.heap.size := Nat.le_of_eq hwd.symm
              rw [List.nil_append] at h2
              refine wpAnyK_1 7 (by kernel_rfl) (wpOpK' rfl rfl ?_)
              intro K hK
              have hbz := c2.size
              refine oapp (.tmp 37) (.tmp 39) rfl h2 r2 rfl rfl (by simp; omega) (by first | exact Nat.le_trans k0.size (Nat.le_trans k1.size k2.size) | exact Nat.le_trans k0.size (Nat.le_trans k2.size k1.size) | exact Nat.le_trans k0.size k1.size) (fun v3 W3 h3 k3 f3 => hK.out _ _ trivial ?_)
              clear hK K
              simp only [List.getElem_toArray, List.getElem_cons_succ, List.getElem_cons_zero, Act.put, List.setIfInBounds_toArray, List.set_cons_zero, List.set_cons_succ]
              have hX := hX
              have c3 := c2.own k3 h2 hX
              refine wpAnyK_tail 11 rfl (by kernel_rfl) ?_
              simp only [List.drop_succ_cons, List.drop_zero]
              go_wp2_with (at_builtin; refine wapp rfl (.tmp 40) (.tmp 43) rfl h3 (hR2.keep c3) rfl rfl (by simp; omega) (Nat.le_trans (by first | exact Nat.le_trans k0.size (Nat.le_trans k1.size k2.size) | exact Nat.le_trans k0.size (Nat.le_trans k2.size k1.size) | exact Nat.le_trans k0.size k1.size) k3.size) ?_)
              intro v4 W4 h4 k4 f4
              go_wp2_with fail
              go_ret
              exact ⟨_, rfl, by rw [HP.out]; exact (by simpa using h4.weak (by omega : base ≤ _)), c3.own k4 h3 hX, fun q hq => .inr (by have h5 := (h4.lt q hq).1; omega)⟩
          · intro K hK
            refine obuild (.tmp 38) n rfl rfl (fun g2 W2 k2 hg lg => hK.out _ _ trivial ?_)
            clear hK K
            simp only [List.getElem_toArray, List.getElem_cons_succ, List.getElem_cons_zero, Act.put, List.setIfInBounds_toArray, List.set_cons_zero, List.set_cons_succ]
            refine wpAnyK_1 0 (by kernel_rfl) (wpOpK' rfl rfl ?_)
            intro K hK
            refine obuild0 rfl (fun g0 W0 k0 o0 z0 => hK.out _ _ trivial ?_)
            clear hK K
            simp only [List.getElem_toArray, List.getElem_cons_zero, Act.put, List.setIfInBounds_toArray, List.set_cons_zero, List.set_cons_succ]
            have r1 : RI (own (.slice (some ⟨g0, 0, none⟩) 0 0)) W0 _ [n] := (RI.one hg (Nat.le_refl 1) (by decide) (fun e => by have := own_slice.1 e; have := (Chg.size k2); have := World.block_lt_of_cell? W2 _ hg; simp only at this; omega) : RI (own (.slice (some ⟨g0, 0, none⟩) 0 0)) W2 _ [n]).keep k0
            refine wpAnyK_1 4 (by kernel_rfl) (wpOpK' rfl rfl ?_)
            intro K hK
            have c2 := (c0.keep k2).keep k0
            refine oapp (.tmp 33) (.tmp 36) rfl o0 (hR1.keep c2) rfl rfl (by simp; omega) k0.size (fun v1 W1 h1 k1 f1 => hK.out _ _ trivial ?_)
            clear hK K
            simp only [List.getElem_toArray, List.getElem_cons_succ, List.getElem_cons_zero, Act.put, List.setIfInBounds_toArray, List.set_cons_zero, List.set_cons_succ]
            have r2 := (r1.step k1 (fun _ e => e)).weak (B := No) (fun _ e _ => e.elim)
            have h2 := h1
            have c2 := c2.own k1 o0 (by have := k2.size; omega)
            have hX : w.heap.size ≤ W2.heap.size := by have := k2.size; omega
            rw [List.nil_append] at h2
            refine wpAnyK_1 7 (by kernel_rfl) (wpOpK' rfl rfl ?_)
            intro K hK
            have hbz := c2.size
            refine oapp (.tmp 37) (.tmp 39) rfl h2 r2 rfl rfl (by simp; omega) (by first | exact Nat.le_trans k0.size (Nat.le_trans k1.size k2.size) | exact Nat.le_trans k0.size (Nat.le_trans k2.size k1.size) | exact Nat.le_trans k0.size k1.size) (fun v3 W3 h3 k3 f3 => hK.out _ _ trivial ?_)
            clear hK K
            simp only [List.getElem_toArray, List.getElem_cons_succ, List.getElem_cons_zero, Act.put, List.setIfInBounds_toArray, List.set_cons_zero, List.set_cons_succ]
            have hX := hX
            have c3 := c2.own k3 h2 hX
            refine wpAnyK_tail 11 rfl (by kernel_rfl) ?_
            simp only [List.drop_succ_cons, List.drop_zero]
            go_wp2_with (at_builtin; refine wapp rfl (.tmp 40) (.tmp 43) rfl h3 (hR2.keep c3) rfl rfl (by simp; omega) (Nat.le_trans (by first | exact Nat.le_trans k0.size (Nat.le_trans k1.size k2.size) | exact Nat.le_trans k0.size (Nat.le_trans k2.size k1.size) | exact Nat.le_trans k0.size k1.size) k3.size) ?_)
            intro v4 W4 h4 k4 f4
            go_wp2_with fail
            go_ret
            exact ⟨_, rfl, by rw [HP.out]; exact (by simpa using h4.weak (by omega : base ≤ _)), c3.own k4 h3 hX, fun q hq => .inr (by have h5 := (h4.lt q hq).1; omega)⟩
    · have hkl : k = l.length := by omega
      subst hkl
      have hsp := putL_split n l.length (Nat.le_refl _) H.out (fun hh => absurd hh (Nat.lt_irrefl _))
      have HP : Hid (putL l n = l ++ [n]) := Lib.hid (by rw [hsp, if_neg (fun e => absurd e.1 (Nat.lt_irrefl _))]; simp)
      obtain ⟨x1, hx1, hR1⟩ := hrd.upto l.length _ rfl (Nat.le_refl _)
      obtain ⟨x2, hx2, hR2⟩ := hrd.from l.length _ rfl (Nat.le_refl _)
      clear hsp hc
      have HPP : Hid (putL l n = l.take l.length ++ n :: l.drop l.length) := Lib.hid (by rw [HP.out]; simp)
      go_wp2_with fail
      refine wp_region_K (S := fun _ => True) (k := 11) (by kernel_rfl) ?_
      have hS : (fun _ : World => True) w := trivial
      have c0 : Chg No w w.drew := (Chg.refl No w).drew
      have hbd : base ≤ w.drew.heap.size := hb
      have hwd : w.drew.heap.size = w.heap.size := rfl
      generalize w.drew = W at c0 hbd hwd ⊢
      refine wpAnyK_take0 1 (.slice a l.length cap) rfl (by kernel_rfl) (fun _ _ _ h => h) hS rfl (by intro w; go_simp) ?_
      simp only [List.getElem_toArray, List.getElem_cons_succ, List.getElem_cons_zero, Act.put, List.setIfInBounds_toArray, List.set_cons_zero, List.set_cons_succ]
      refine wpAnyK_take0 2 (.int .i64 (l.length : Int)) rfl (by kernel_rfl) (fun _ _ _ h => h) hS rfl (by intro w; go_simp) ?_
      simp only [List.getElem_toArray, List.getElem_cons_succ, List.getElem_cons_zero, Act.put, List.setIfInBounds_toArray, List.set_cons_zero, List.set_cons_succ]
      refine wpAnyK_take0 3 (x1) rfl (by kernel_rfl) (fun _ _ _ h => h) hS rfl (by intro w; go_simp) ?_
      simp only [List.getElem_toArray, List.getElem_cons_succ, List.getElem_cons_zero, Act.put, List.setIfInBounds_toArray, List.set_cons_zero, List.set_cons_succ]
      refine wpAnyK_take0 5 (.int .i64 n) rfl (by kernel_rfl) (fun _ _ _ h => h) hS rfl (by intro w; go_simp) ?_
      simp only [List.getElem_toArray, List.getElem_cons_succ, List.getElem_cons_zero, Act.put, List.setIfInBounds_toArray, List.set_cons_zero, List.set_cons_succ]
      refine wpAnyK_take0 8 (.slice a l.length cap) rfl (by kernel_rfl) (fun _ _ _ h => h) hS rfl (by intro w; go_simp) ?_
      simp only [List.getElem_toArray, List.getElem_cons_succ, List.getElem_cons_zero, Act.put, List.setIfInBounds_toArray, List.set_cons_zero, List.set_cons_succ]
      refine wpAnyK_take0 9 (.int .i64 (l.length : Int)) rfl (by kernel_rfl) (fun _ _ _ h => h) hS rfl (by intro w; go_simp) ?_
      simp only [List.getElem_toArray, List.getElem_cons_succ, List.getElem_cons_zero, Act.put, List.setIfInBounds_toArray, List.set_cons_zero, List.set_cons_succ]
      refine wpAnyK_take0 10 (x2) rfl (by kernel_rfl) (fun _ _ _ h => h) hS rfl (by intro w; go_simp) ?_
      simp only [List.getElem_toArray, List.getElem_cons_succ, List.getElem_cons_zero, Act.put, List.setIfInBounds_toArray, List.set_cons_zero, List.set_cons_succ]
      refine wpAnyK_2 0 6 (by kernel_rfl) (wpOpK' rfl rfl ?_) (wpOpK' rfl rfl ?_)
      · intro K hK
        refine obuild0 rfl (fun g0 W0 k0 o0 z0 => hK.out _ _ trivial ?_)
        clear hK K
        simp only [List.getElem_toArray, List.getElem_cons_zero, Act.put, List.setIfInBounds_toArray, List.set_cons_zero, List.set_cons_succ]
        refine wpAnyK_2 4 6 (by kernel_rfl) (wpOpK' rfl rfl ?_) (wpOpK' rfl rfl ?_)
        · intro K hK
          refine oapp (.tmp 33) (.tmp 36) rfl o0 (hR1.keep (c0.keep k0)) rfl rfl (by simp; omega) k0.size (fun v1 W1 h1 k1 f1 => hK.out _ _ trivial ?_)
          clear hK K
          simp only [List.getElem_toArray, List.getElem_cons_succ, List.getElem_cons_zero, Act.put, List.setIfInBounds_toArray, List.set_cons_zero, List.set_cons_succ]
          refine wpAnyK_1 6 (by kernel_rfl) (wpOpK' rfl rfl ?_)
          intro K hK
          refine obuild (.tmp 38) n rfl rfl (fun g2 W2 k2 hg lg => hK.out _ _ trivial ?_)
          clear hK K
          simp only [List.getElem_toArray, List.getElem_cons_succ, List.getElem_cons_zero, Act.put, List.setIfInBounds_toArray, List.set_cons_zero, List.set_cons_succ]
          have c1 : Chg No w W1 := (c0.keep k0).own k1 o0 (Nat.le_of_eq hwd.symm)
          have c2 := c1.keep k2
          have h2 := h1.keep k2
          have r2 : RI No W2 _ [n] := RI.one hg (Nat.le_refl 1) (by decide) (fun e => e)
          have hX : w.heap.size ≤ W.heap.size := Nat.le_of_eq hwd.symm
          rw [List.nil_append] at h2
          refine wpAnyK_1 7 (by kernel_rfl) (wpOpK' rfl rfl ?_)
          intro K hK
          have hbz := c2.size
          refine oapp (.tmp 37) (.tmp 39) rfl h2 r2 rfl rfl (by simp; omega) (by first | exact Nat.le_trans k0.size (Nat.le_trans k1.size k2.size) | exact Nat.le_trans k0.size (Nat.le_trans k2.size k1.size) | exact Nat.le_trans k0.size k1.size) (fun v3 W3 h3 k3 f3 => hK.out _ _ trivial ?_)
          clear hK K
          simp only [List.getElem_toArray, List.getElem_cons_succ, List.getElem_cons_zero, Act.put, List.setIfInBounds_toArray, List.set_cons_zero, List.set_cons_succ]
          have hX := hX
          have c3 := c2.own k3 h2 hX
          refine wpAnyK_tail 11 rfl (by kernel_rfl) ?_
          simp only [List.drop_succ_cons, List.drop_zero]
          go_wp2_with (at_builtin; refine wapp rfl (.tmp 40) (.tmp 43) rfl h3 (hR2.keep c3) rfl rfl (by simp; omega) (Nat.le_trans (by first | exact Nat.le_trans k0.size (Nat.le_trans k1.size k2.size) | exact Nat.le_trans k0.size (Nat.le_trans k2.size k1.size) | exact Nat.le_trans k0.size k1.size) k3.size) ?_)
          intro v4 W4 h4 k4 f4
          go_wp2_with fail
          go_ret
          exact ⟨_, rfl, by rw [HP.out]; exact (by simpa using h4.weak (by omega : base ≤ _)), c3.own k4 h3 hX, fun q hq => .inr (by have h5 := (h4.lt q hq).1; omega)⟩
        · intro K hK
          refine obuild (.tmp 38) n rfl rfl (fun g2 W2 k2 hg lg => hK.out _ _ trivial ?_)
          clear hK K
          simp only [List.getElem_toArray, List.getElem_cons_succ, List.getElem_cons_zero, Act.put, List.setIfInBounds_toArray, List.set_cons_zero, List.set_cons_succ]
          have r1 : RI (own (.slice (some ⟨g0, 0, none⟩) 0 0)) W2 _ [n] := RI.one hg (Nat.le_refl 1) (by decide) (fun e => by have := (o0.lt _ e).2; omega)
          refine wpAnyK_1 4 (by kernel_rfl) (wpOpK' rfl rfl ?_)
          intro K hK
          have c2 := (c0.keep k0).keep k2
          have o2 := o0.keep k2
          refine oapp (.tmp 33) (.tmp 36) rfl o2 (hR1.keep c2) rfl rfl (by simp; omega) (Nat.le_trans k0.size k2.size) (fun v1 W1 h1 k1 f1 => hK.out _ _ trivial ?_)
          clear hK K
          simp only [List.getElem_toArray, List.getElem_cons_succ, List.getElem_cons_zero, Act.put, List.setIfInBounds_toArray, List.set_cons_zero, List.set_cons_succ]
          have r2 := (r1.step k1 (fun _ e => e)).weak (B := No) (fun _ e _ => e.elim)
          have h2 := h1
          have c2 := c2.own k1 o2 (Nat.le_of_eq hwd.symm)
          have hX : w.heap.size ≤ W.heap.size := Nat.le_of_eq hwd.symm
          rw [List.nil_append] at h2
          refine wpAnyK_1 7 (by kernel_rfl) (wpOpK' rfl rfl ?_)
          intro K hK
          have hbz := c2.size
          refine oapp (.tmp 37) (.tmp 39) rfl h2 r2 rfl rfl (by simp; omega) (by first | exact Nat.le_trans k0.size (Nat.le_trans k1.size k2.size) | exact Nat.le_trans k0.size (Nat.le_trans k2.size k1.size) | exact Nat.le_trans k0.size k1.size) (fun v3 W3 h3 k3 f3 => hK.out _ _ trivial ?_)
          clear hK K
          simp only [List.getElem_toArray, List.getElem_cons_succ, List.getElem_cons_zero, Act.put, List.setIfInBounds_toArray, List.set_cons_zero, List.set_cons_succ]
          have hX := hX
          have c3 := c2.own k3 h2 hX
          refine wpAnyK_tail 11 rfl (by kernel_rfl) ?_
          simp only [List.drop_succ_cons, List.drop_zero]
          go_wp2_with (at_builtin; refine wapp rfl (.tmp 40) (.tmp 43) rfl h3 (hR2.keep c3) rfl rfl (by simp; omega) (Nat.le_trans (by first | exact Nat.le_trans k0.size (Nat.le_trans k1.size k2.size) | exact Nat.le_trans k0.size (Nat.le_trans k2.size k1.size) | exact Nat.le_trans k0.size k1.size) k3.size) ?_)
          intro v4 W4 h4 k4 f4
          go_wp2_with fail
          go_ret
          exact ⟨_, rfl, by rw [HP.out]; exact (by simpa using h4.weak (by omega : base ≤ _)), c3.own k4 h3 hX, fun q hq => .inr (by have h5 := (h4.lt q hq).1; omega)⟩
      · intro K hK
        refine obuild (.tmp 38) n rfl rfl (fun g2 W2 k2 hg lg => hK.out _ _ trivial ?_)
        clear hK K
        simp only [List.getElem_toArray, List.getElem_cons_succ, List.getElem_cons_zero, Act.put, List.setIfInBounds_toArray, List.set_cons_zero, List.set_cons_succ]
        refine wpAnyK_1 0 (by kernel_rfl) (wpOpK' rfl rfl ?_)
        intro K hK
        refine obuild0 rfl (fun g0 W0 k0 o0 z0 => hK.out _ _ trivial ?_)
        clear hK K
        simp only [List.getElem_toArray, List.getElem_cons_zero, Act.put, List.setIfInBounds_toArray, List.set_cons_zero, List.set_cons_succ]
        have r1 : RI (own (.slice (some ⟨g0, 0, none⟩) 0 0)) W0 _ [n] := (RI.one hg (Nat.le_refl 1) (by decide) (fun e => by have := own_slice.1 e; have := (Chg.size k2); have := World.block_lt_of_cell? W2 _ hg; simp only at this; omega) : RI (own (.slice (some ⟨g0, 0, none⟩) 0 0)) W2 _ [n]).keep k0
        refine wpAnyK_1 4 (by kernel_rfl) (wpOpK' rfl rfl ?_)
        intro K hK
        have c2 := (c0.keep k2).keep k0
        refine oapp (.tmp 33) (.tmp 36) rfl o0 (hR1.keep c2) rfl rfl (by simp; omega) k0.size (fun v1 W1 h1 k1 f1 => hK.out _ _ trivial ?_)
        clear hK K
        simp only [List.getElem_toArray, List.getElem_cons_succ, List.getElem_cons_zero, Act.put, List.setIfInBounds_toArray, List.set_cons_zero, List.set_cons_succ]
        have r2 := (r1.step k1 (fun _ e => e)).weak (B := No) (fun _ e _ => e.elim)
        have h2 := h1
        have c2 := c2.own k1 o0 (by have := k2.size; omega)
        have hX : w.heap.size ≤ W2.heap.size := by have := k2.size; omega
        rw [List.nil_append] at h2
        refine wpAnyK_1 7 (by kernel_rfl) (wpOpK' rfl rfl ?_)
        intro K hK
        have hbz := c2.size
        refine oapp (.tmp 37) (.tmp 39) rfl h2 r2 rfl rfl (by simp; omega) (by first | exact Nat.le_trans k0.size (Nat.le_trans k1.size k2.size) | exact Nat.le_trans k0.size (Nat.le_trans k2.size k1.size) | exact Nat.le_trans k0.size k1.size) (fun v3 W3 h3 k3 f3 => hK.out _ _ trivial ?_)
        clear hK K
        simp only [List.getElem_toArray, List.getElem_cons_succ, List.getElem_cons_zero, Act.put, List.setIfInBounds_toArray, List.set_cons_zero, List.set_cons_succ]
        have hX := hX
        have c3 := c2.own k3 h2 hX
        refine wpAnyK_tail 11 rfl (by kernel_rfl) ?_
        simp only [List.drop_succ_cons, List.drop_zero]
        go_wp2_with (at_builtin; refine wapp rfl (.tmp 40) (.tmp 43) rfl h3 (hR2.keep c3) rfl rfl (by simp; omega) (Nat.le_trans (by first | exact Nat.le_trans k0.size (Nat.le_trans k1.size k2.size) | exact Nat.le_trans k0.size (Nat.le_trans k2.size k1.size) | exact Nat.le_trans k0.size k1.size) k3.size) ?_)
        intro v4 W4 h4 k4 f4
        go_wp2_with fail
        go_ret
        exact ⟨_, rfl, by rw [HP.out]; exact (by simpa using h4.weak (by omega : base ≤ _)), c3.own k4 h3 hX, fun q hq => .inr (by have h5 := (h4.lt q hq).1; omega)⟩
set_option maxRecDepth 100000 in
set_option maxHeartbeats 1000000 in
theorem l3Different_any (A : Nat → Prop) (v : Value) (l : List Int) (w : World) (h : RI A w v l) :
    Calls Tryz.prog 117 #[v] w (Ret fun r w' => OI w.heap.size w' r (diffL l) ∧ Chg No w w') := by
  have hL := h.len
  obtain ⟨a, cap, rfl, hcap, hmax, hlen, _, hc⟩ := id h
  go_enter Tryz.func117, Tryz.ntmps117
  go_wp2_with fail
  go_loopw [3, 4] (fun o i wr => ∃ k : Nat, k ≤ l.length ∧ i = .int .i64 k ∧ OI w.heap.size wr o (diffL (l.take k)) ∧ Chg No w wr) (fun _ i _ => l.length - (intOf i).toNat)
  case atStart => exact ⟨0, Nat.zero_le _, rfl, OI.zero (Nat.le_refl _), (Chg.refl No w).alloc _⟩
  case round =>
    obtain ⟨k, hk, rfl, ho, hch⟩ := hrel
    by_cases hlt : k < l.length
    · obtain ⟨b, off, rfl, _, hb, hcell⟩ := hc (by intro e; simp [e] at hlt)
      have hcl := (hch.cellD b (off + k) hb (fun e => e)).trans (hcell k hlt)
      have hsn := diffL_snoc l k hlt
      obtain ⟨y, hy⟩ : ∃ y, l[k] = y := ⟨_, rfl⟩
      have hgy : l.getD k 0 = y := by rw [← hy, List.getD_eq_getElem?_getD, List.getElem?_eq_getElem hlt]; rfl
      rw [hgy] at hcl
      rw [hy] at hsn
      have hdl : (diffL (l.take k)).length < 17592186044416 := by have := diffL_len_le (l.take k); rw [List.length_take] at this; omega
      have HS := Lib.hid hsn
      obtain ⟨oa, on, oc, rfl⟩ := ho.shape
      have hk0 : (0 : Int) ≤ (k : Int) := Int.natCast_nonneg _
      have hk1 : (k : Int) < (l.length : Int) := by omega
      have hw1 : IntKind.i64.wrap ((k : Int) + 1) = (k : Int) + 1 := IntWalk.i64_in _ (by omega)
      clear hsn hcell hc hy hgy
      go_wp2_with fail
      refine (l1Put_any w.heap.size _ _ y wr ho hch.size hdl).mono ?_
      rintro e w1 ⟨v1, rfl, o1, k1, _⟩
      rw [← HS.out] at o1
      go_wp2_with fail
      go_round
      case rel => exact ⟨k + 1, hlt, by go_num, o1, hch.keep k1⟩
      case measure => simp [intOf]; omega
    · have hkl : k = l.length := by omega
      subst hkl
      rw [List.take_length] at ho
      clear hc
      go_wp2_with fail
      go_ret
      exact ⟨_, rfl, ho, hch⟩
end Go.Proofs.YtmfhlojmoehmiaaGreat
