import Derived.Test.YtegipldajbkjfaaUm
import Derived.Test.YtegipldajbkjfaaUf
import Derived.Test.YtegipldajbkjfaaUg
/- orders of items: both sides; RenameRequests; what is drawn for it -/
namespace Go.Proofs.Ytegipldajbkjfaa
open Go.RowKit

set_option maxRecDepth 100000 in
set_option maxHeartbeats 1000000 in
theorem isOrder_any (A : Nat → Prop) (v : Value) (l : List Int) (n : Int) (w : World) (h : RI A w v l) (hn : -100 ≤ n ∧ n ≤ 100) :
    Calls Try.prog 17 #[.int .i64 n, v] w (Ret fun r w' => r = .bool (orderB n l) ∧ Chg No w w') := by
  have hv := h
  obtain ⟨a, cap, rfl, hcap, hmax, hlen, _, hc⟩ := h
  clear hc
  by_cases h1 : (l.length : Int) = n
  · cases h2 : belowB n l
    · have HB : Hid (orderB n l = false) := Lib.hid (by simp [orderB, h2])
      have H2 := Lib.hid h2
      clear h2
      go_enter Try.func17, Try.ntmps17
      go_wp2_with fail
      refine (areBelow_any A _ l n _ hv (by omega) (by omega)).mono ?_
      rintro e w1 ⟨_, rfl, rfl, k1⟩
      rw [H2.out]
      go_wp2_with fail
      go_ret
      exact ⟨_, rfl, by rw [HB.out]; rfl, k1⟩
    · have HB : Hid (orderB n l = decide (((diffL l).length : Int) = n)) := Lib.hid (by simp [orderB, h1, h2])
      have H2 := Lib.hid h2
      clear h2
      go_enter Try.func17, Try.ntmps17
      go_wp2_with fail
      refine (areBelow_any A _ l n _ hv (by omega) (by omega)).mono ?_
      rintro e w1 ⟨_, rfl, rfl, k1⟩
      rw [H2.out]
      go_wp2_with fail
      refine (rising_any A _ l w1 (hv.keep k1)).mono ?_
      rintro e w2 ⟨r, rfl, o2, k2⟩
      obtain ⟨ra, rc, rfl, _⟩ := o2.view
      go_wp2_with fail
      go_ret
      refine ⟨_, rfl, ?_, k1.keep k2⟩
      rw [HB.out]
      rfl
  · have HB : Hid (orderB n l = false) := Lib.hid (by simp [orderB, h1])
    go_enter Try.func17, Try.ntmps17
    go_wp2_with fail
    go_ret
    exact ⟨_, rfl, by rw [HB.out]; rfl, Chg.refl No w⟩

set_option maxRecDepth 100000 in
set_option maxHeartbeats 1000000 in
theorem l3Order_any (A : Nat → Prop) (v : Value) (l : List Int) (n : Int) (w : World) (h : RI A w v l) (hn : -100 ≤ n ∧ n ≤ 100) :
    Calls Try.prog 19 #[.int .i64 n, v] w (Ret fun r w' => r = .bool (orderB n l) ∧ Chg No w w') := by
  have hv := h
  obtain ⟨a, cap, rfl, hcap, hmax, hlen, _, hc⟩ := h
  clear hc
  by_cases h1 : (l.length : Int) = n
  · cases h2 : belowB n l
    · have HB : Hid (orderB n l = false) := Lib.hid (by simp [orderB, h2])
      have H2 := Lib.hid h2
      clear h2
      go_enter Try.func19, Try.ntmps19
      go_wp2_with fail
      refine (l3List_any A _ l n _ hv (by omega) (by omega)).mono ?_
      rintro e w1 ⟨rfl, rfl⟩
      rw [H2.out]
      go_wp2_with fail
      go_ret
      exact ⟨_, rfl, by rw [HB.out]; rfl, Chg.refl No _⟩
    · have HB : Hid (orderB n l = decide (((diffL l).length : Int) = n)) := Lib.hid (by simp [orderB, h1, h2])
      have H2 := Lib.hid h2
      clear h2
      go_enter Try.func19, Try.ntmps19
      go_wp2_with fail
      refine (l3List_any A _ l n _ hv (by omega) (by omega)).mono ?_
      rintro e w1 ⟨rfl, rfl⟩
      rw [H2.out]
      go_wp2_with fail
      refine (l3Different_any A _ l _ hv).mono ?_
      rintro e w2 ⟨r, rfl, o2, k2⟩
      obtain ⟨ra, rc, rfl, _⟩ := o2.view
      go_wp2_with fail
      go_ret
      refine ⟨_, rfl, ?_, k2⟩
      rw [HB.out]
      rfl
  · have HB : Hid (orderB n l = false) := Lib.hid (by simp [orderB, h1])
    go_enter Try.func19, Try.ntmps19
    go_wp2_with fail
    go_ret
    exact ⟨_, rfl, by rw [HB.out]; rfl, Chg.refl No w⟩

/-- requests for n items, renamed by an order of them -/
def renB (n : Int) (l tt : List Int) : Bool := (inB n 1 8 && decide (l.length ≤ 60) && belowB n l) && orderB n tt
set_option maxRecDepth 100000 in
set_option maxHeartbeats 1000000 in
theorem specRename_any (n : Int) (v vt : Value) (l tt : List Int) (w : World) (h : RI No w v l) (ht : RI No w vt tt) (hn : -100 ≤ n ∧ n ≤ 100) :
    Calls Try.prog 8 #[.int .i64 n, v, vt] w (Ret2 fun _ v1 w' => v1 = .bool (renB n l tt) ∧ Chg No w w') := by
  have hv := h
  have hvt := ht
  obtain ⟨a, cap, rfl, hcap, hmax, hlen, _, hc⟩ := h
  obtain ⟨a', cap', rfl, hcap', hmax', hlen', _, hc'⟩ := ht
  have k0 := (Chg.refl No w).alloc (.cells #[] 3)
  have ho0 : OI w.heap.size (w.alloc (.cells #[] 3)) (.slice (some ⟨w.heap.size, 0, none⟩) 0 0) [] := OI.zero (Nat.le_refl _)
  cases h1 : (inB n 1 8 && decide (l.length ≤ 60) && belowB n l)
  · have HB : Hid (renB n l tt = false) := Lib.hid (by unfold renB; rw [h1]; rfl)
    have H1 := Lib.hid h1
    clear h1 hc hc'
    go_enter Try.func8, Try.ntmps8
    go_wp2_with fail
    refine (l3Good_any No _ l n _ (hv.keep k0)).mono ?_
    rintro e w1 ⟨rfl, rfl⟩
    rw [H1.out]
    go_wp2_with fail
    go_ret2
    exact ⟨_, _, rfl, by rw [HB.out]; rfl, k0⟩
  · have HR : Hid (renB n l tt = orderB n tt) := Lib.hid (by unfold renB; rw [h1]; rfl)
    have H1 := Lib.hid h1
    have hlow : belowB n l = true ∧ l.length ≤ 60 := by
      simp only [Bool.and_eq_true, decide_eq_true_eq] at h1
      exact ⟨h1.2, h1.1.2⟩
    clear h1
    cases h2 : orderB n tt
    · have H2 := Lib.hid h2
      clear h2 hc hc' hlow
      go_enter Try.func8, Try.ntmps8
      go_wp2_with fail
      refine (l3Good_any No _ l n _ (hv.keep k0)).mono ?_
      rintro e w1 ⟨rfl, rfl⟩
      rw [H1.out]
      go_wp2_with fail
      refine (l3Order_any No _ tt n _ (hvt.keep k0) hn).mono ?_
      rintro e w2 ⟨_, rfl, rfl, k2⟩
      rw [H2.out]
      go_wp2_with fail
      go_ret2
      exact ⟨_, _, rfl, by rw [HR.out, H2.out]; rfl, k0.keep k2⟩
    · have htl := (order_inj h2).2.2
      have H2 := Lib.hid h2
      have HLOW := Lib.hid (fun (j : Nat) (hj : j < l.length) => (inB_iff.1 (List.all_eq_true.1 hlow.1 (l.getD j 0) (by
        rw [List.getD_eq_getElem?_getD, List.getElem?_eq_getElem hj]
        exact List.getElem_mem hj))))
      have h60 := hlow.2
      clear h2 hlow
      go_enter Try.func8, Try.ntmps8
      go_wp2_with fail
      refine (l3Good_any No _ l n _ (hv.keep k0)).mono ?_
      rintro e w1 ⟨rfl, rfl⟩
      rw [H1.out]
      go_wp2_with fail
      refine (l3Order_any No _ tt n _ (hvt.keep k0) hn).mono ?_
      rintro e w2 ⟨_, rfl, rfl, k2⟩
      rw [H2.out]
      have ho2 := ho0.keep k2
      have k2 := k0.keep k2
      go_wp2_with fail
      go_loopw [8, 9] (fun o i wr => ∃ j : Nat, j ≤ l.length ∧ i = .int .i64 j ∧ OI w.heap.size wr o ((l.take j).map (renO tt)) ∧ Chg No w wr) (fun _ i _ => l.length - (intOf i).toNat)
      case atStart => exact ⟨0, Nat.zero_le _, rfl, ho2, k2⟩
      case round =>
        obtain ⟨j, hj, rfl, ho, hch⟩ := hrel
        have hsz := hch.size
        by_cases hlt : j < l.length
        · obtain ⟨b, off, rfl, _, hb, hcell⟩ := hc (by intro e; simp [e] at hlt)
          have hy := HLOW.out j hlt
          have c1 := (hch.cellD b (off + j) hb (fun e => e)).trans (hcell j hlt)
          have hsn : (l.take (j + 1)).map (renO tt) = (l.take j).map (renO tt) ++ [renO tt (l.getD j 0)] := by
            rw [take_snoc l j hlt, List.map_append, List.getD_eq_getElem?_getD, List.getElem?_eq_getElem hlt]
            rfl
          obtain ⟨y, hyy⟩ : ∃ y, l.getD j 0 = y := ⟨_, rfl⟩
          rw [hyy] at hy c1 hsn
          obtain ⟨i, rfl⟩ : ∃ i : Nat, y = (i : Int) := ⟨y.toNat, by omega⟩
          have hit : i < tt.length := by omega
          obtain ⟨b', off', rfl, _, hb', hcell'⟩ := hc' (by intro e; simp [e] at hit)
          have c2 := (hch.cellD b' (off' + i) hb' (fun e => e)).trans (hcell' i hit)
          have hz : renO tt (i : Int) = tt.getD i 0 := by
            unfold renO
            rw [if_pos (by omega), Int.toNat_natCast]
          obtain ⟨z, hzz⟩ : ∃ z, tt.getD i 0 = z := ⟨_, rfl⟩
          rw [hzz] at c2 hz
          rw [hz] at hsn
          have HSN := Lib.hid hsn
          have hi0 : (0 : Int) ≤ (i : Int) := Int.natCast_nonneg _
          have hi1 : (i : Int) < (tt.length : Int) := by omega
          have hj0 : (0 : Int) ≤ (j : Int) := Int.natCast_nonneg _
          have hj1 : (j : Int) < (l.length : Int) := by omega
          have hw1 : IntKind.i64.wrap ((j : Int) + 1) = (j : Int) + 1 := IntWalk.i64_in _ (by omega)
          have hml : ((l.take j).map (renO tt)).length < 17592186044416 := by rw [List.length_map, List.length_take]; omega
          obtain ⟨oa, ocap, rfl, _⟩ := id ho.view
          obtain ⟨M, hM⟩ : ∃ M, (l.take j).map (renO tt) = M := ⟨_, rfl⟩
          have HM := Lib.hid hM
          rw [hM] at ho hml ⊢
          clear hcell hcell' hc hc' hyy hzz hz hsn hy hM
          go_wp2_with (at_builtin; refine wapp1 rfl (.tmp 28) (.tmp 36) rfl ho rfl rfl hml (by omega) ?_)
          intro v3 w3 h3 k3 f3
          have hown := fun q hq => (ho.lt q hq).1
          obtain ⟨ob, obc, rfl, _⟩ := h3.view
          go_wp2_with fail
          go_round
          case rel => exact ⟨j + 1, hlt, by go_num, by rw [HSN.out, HM.out]; exact h3, hch.step k3 (fun q hq hl => by have := hown q hq; omega)⟩
          case measure => simp [intOf]; omega
        · have hjl : j = l.length := by omega
          subst hjl
          clear hc hc'
          rw [List.take_length] at ho
          go_wp2_with fail
          go_ret2
          exact ⟨_, _, rfl, by rw [HR.out, H2.out]; rfl, hch⟩

set_option maxRecDepth 100000 in
set_option maxHeartbeats 1000000 in
theorem implRename_any (n : Int) (v vt : Value) (l tt : List Int) (w : World) (h : RI No w v l) (ht : RI No w vt tt) (hn : -100 ≤ n ∧ n ≤ 100) :
    Calls Try.prog 6 #[.int .i64 n, v, vt] w (Ret2 fun v0 v1 w' => v1 = .bool (renB n l tt) ∧ OI w.heap.size w' v0 (if renB n l tt then l.map (renO tt) else []) ∧ Chg No w w') := by
  obtain ⟨r, hr⟩ : ∃ r, (if renB n l tt then l.map (renO tt) else []) = r := ⟨_, rfl⟩
  rw [hr]
  have HRR := Lib.hid hr
  clear hr
  have hv := h
  have hvt := ht
  obtain ⟨a, cap, rfl, hcap, hmax, hlen, _, hc⟩ := h
  obtain ⟨a', cap', rfl, hcap', hmax', hlen', _, hc'⟩ := ht
  cases h1 : (inB n 1 8 && decide (l.length ≤ 60) && belowB n l)
  · have HB : Hid (renB n l tt = false) := Lib.hid (by unfold renB; rw [h1]; rfl)
    have H1 := Lib.hid h1
    clear h1 hc hc'
    go_enter Try.func6, Try.ntmps6
    go_wp2_with fail
    refine (IsRequests_any No _ l n _ hv).mono ?_
    rintro e w1 ⟨_, rfl, rfl, k1⟩
    rw [H1.out]
    go_wp2_with fail
    go_ret2
    exact ⟨_, _, rfl, by rw [HB.out]; rfl, by rw [← HRR.out, HB.out, if_neg (by simp)]; exact OI.nil _ _, k1⟩
  · have HR : Hid (renB n l tt = orderB n tt) := Lib.hid (by unfold renB; rw [h1]; rfl)
    have H1 := Lib.hid h1
    have hlow : belowB n l = true ∧ l.length ≤ 60 := by
      simp only [Bool.and_eq_true, decide_eq_true_eq] at h1
      exact ⟨h1.2, h1.1.2⟩
    clear h1
    cases h2 : orderB n tt
    · have H2 := Lib.hid h2
      clear h2 hc hc' hlow
      go_enter Try.func6, Try.ntmps6
      go_wp2_with fail
      refine (IsRequests_any No _ l n _ hv).mono ?_
      rintro e w1 ⟨_, rfl, rfl, k1⟩
      rw [H1.out]
      go_wp2_with fail
      refine (isOrder_any No _ tt n _ (hvt.keep k1) hn).mono ?_
      rintro e w2 ⟨_, rfl, rfl, k2⟩
      rw [H2.out]
      go_wp2_with fail
      go_ret2
      exact ⟨_, _, rfl, by rw [HR.out, H2.out]; rfl, by rw [← HRR.out, HR.out, H2.out, if_neg (by simp)]; exact OI.nil _ _, k1.keep k2⟩
    · have htl := (order_inj h2).2.2
      have H2 := Lib.hid h2
      have HLOW := Lib.hid (fun (j : Nat) (hj : j < l.length) => (inB_iff.1 (List.all_eq_true.1 hlow.1 (l.getD j 0) (by
        rw [List.getD_eq_getElem?_getD, List.getElem?_eq_getElem hj]
        exact List.getElem_mem hj))))
      have h60 := hlow.2
      clear h2 hlow
      go_enter Try.func6, Try.ntmps6
      go_wp2_with fail
      refine (IsRequests_any No _ l n _ hv).mono ?_
      rintro e w1 ⟨_, rfl, rfl, k1⟩
      rw [H1.out]
      go_wp2_with fail
      refine (isOrder_any No _ tt n _ (hvt.keep k1) hn).mono ?_
      rintro e w2 ⟨_, rfl, rfl, k2⟩
      rw [H2.out]
      have ho2 : OI w.heap.size (w2.alloc (.cells #[] 3)) (.slice (some ⟨w2.heap.size, 0, none⟩) 0 0) [] := OI.zero (Nat.le_trans k1.size k2.size)
      have k2 := (k1.keep k2).alloc (.cells #[] 3)
      go_wp2_with fail
      go_loopw [8, 24] (fun o i wr => ∃ j : Nat, j ≤ l.length ∧ i = .int .i64 j ∧ OI w.heap.size wr o ((l.take j).map (renO tt)) ∧ Chg No w wr) (fun _ i _ => l.length - (intOf i).toNat)
      case atStart => exact ⟨0, Nat.zero_le _, rfl, ho2, k2⟩
      case round =>
        obtain ⟨j, hj, rfl, ho, hch⟩ := hrel
        have hsz := hch.size
        by_cases hlt : j < l.length
        · obtain ⟨b, off, rfl, _, hb, hcell⟩ := hc (by intro e; simp [e] at hlt)
          have hy := HLOW.out j hlt
          have c1 := (hch.cellD b (off + j) hb (fun e => e)).trans (hcell j hlt)
          have hsn : (l.take (j + 1)).map (renO tt) = (l.take j).map (renO tt) ++ [renO tt (l.getD j 0)] := by
            rw [take_snoc l j hlt, List.map_append, List.getD_eq_getElem?_getD, List.getElem?_eq_getElem hlt]
            rfl
          obtain ⟨y, hyy⟩ : ∃ y, l.getD j 0 = y := ⟨_, rfl⟩
          rw [hyy] at hy c1 hsn
          obtain ⟨i, rfl⟩ : ∃ i : Nat, y = (i : Int) := ⟨y.toNat, by omega⟩
          have hit : i < tt.length := by omega
          obtain ⟨b', off', rfl, _, hb', hcell'⟩ := hc' (by intro e; simp [e] at hit)
          have c2 := (hch.cellD b' (off' + i) hb' (fun e => e)).trans (hcell' i hit)
          have hz : renO tt (i : Int) = tt.getD i 0 := by
            unfold renO
            rw [if_pos (by omega), Int.toNat_natCast]
          obtain ⟨z, hzz⟩ : ∃ z, tt.getD i 0 = z := ⟨_, rfl⟩
          rw [hzz] at c2 hz
          rw [hz] at hsn
          have HSN := Lib.hid hsn
          have hi0 : (0 : Int) ≤ (i : Int) := Int.natCast_nonneg _
          have hi1 : (i : Int) < (tt.length : Int) := by omega
          have hj0 : (0 : Int) ≤ (j : Int) := Int.natCast_nonneg _
          have hj1 : (j : Int) < (l.length : Int) := by omega
          have hw1 : IntKind.i64.wrap ((j : Int) + 1) = (j : Int) + 1 := IntWalk.i64_in _ (by omega)
          have hml : ((l.take j).map (renO tt)).length < 17592186044416 := by rw [List.length_map, List.length_take]; omega
          obtain ⟨oa, ocap, rfl, _⟩ := id ho.view
          obtain ⟨M, hM⟩ : ∃ M, (l.take j).map (renO tt) = M := ⟨_, rfl⟩
          have HM := Lib.hid hM
          rw [hM] at ho hml ⊢
          clear hcell hcell' hc hc' hyy hzz hz hsn hy hM
          go_wp2_with (at_builtin; refine wapp1 rfl (.tmp 28) (.tmp 33) rfl ho rfl rfl hml (by omega) ?_)
          intro v3 w3 h3 k3 f3
          have hown := fun q hq => (ho.lt q hq).1
          obtain ⟨ob, obc, rfl, _⟩ := h3.view
          go_wp2_with fail
          go_round
          case rel => exact ⟨j + 1, hlt, by go_num, by rw [HSN.out, HM.out]; exact h3, hch.step k3 (fun q hq hl => by have := hown q hq; omega)⟩
          case measure => simp [intOf]; omega
        · have hjl : j = l.length := by omega
          subst hjl
          clear hc hc'
          rw [List.take_length] at ho
          go_wp2_with fail
          go_ret2
          exact ⟨_, _, rfl, by rw [HR.out, H2.out]; rfl, by rw [← HRR.out, HR.out, H2.out, if_pos rfl]; exact ho, hch⟩
end Go.Proofs.Ytegipldajbkjfaa
