import Derived.Test.YtegipldajbkjfaaGreatPh
import Derived.Test.YtegipldajbkjfaaGreatRu
/- what a request puts out, in the reference -/
namespace Go.Proofs.YtegipldajbkjfaaGreat
open Go.RowKit

set_option maxRecDepth 100000 in
set_option maxHeartbeats 1000000 in
theorem l4Victims_any (A : Nat → Prop) (v : Value) (c : Ca) (x : Int) (w : World) (hv : RC A w v c) (hok : Ok c) :
    Calls Tryz.prog 66 #[v, .int .i64 x] w (Ret fun r w' => OI w.heap.size w' r (victL c x) ∧ Chg No w w') := by
  obtain ⟨pv, mv, rfl, hp, hmk⟩ := id hv
  obtain ⟨pa, pc, rfl, _, _, _, _, hcell⟩ := id hp
  obtain ⟨ma, mn, mc, rfl⟩ := hmk.shape
  have k0 := (Chg.refl No w).alloc (.cells #[.int .i64 c.pol, .int .i64 c.size, .slice pa c.pages.length pc, .slice ma mn mc, .int .i64 c.hand] 26)
  have hbox := Box.new w (.int .i64 c.pol) (.int .i64 c.size) (.slice pa c.pages.length pc) (.slice ma mn mc) (.int .i64 c.hand) 26
  cases hh : hasB c.pages x
  · by_cases hf : (c.pages.length : Int) < c.size
    · have HV : Hid (victL c x = []) := Lib.hid (by unfold victL; rw [hh]; simp [hf])
      obtain ⟨c0, c1, c2, c3, c4, fr⟩ := id hbox
      go_enter Tryz.func66, Tryz.ntmps66
      go_wp2_with fail
      refine (l1Has_any A _ _ x _ (hp.keep k0)).mono ?_
      rintro e w1 ⟨rfl, rfl⟩
      rw [hh]
      go_wp2_with fail
      go_ret
      exact ⟨_, rfl, by rw [HV.out]; exact OI.zeroAt (World.size_alloc ..) (Nat.le_succ _), k0.alloc _⟩
    · by_cases h4 : c.pol = 4
      · have HV : Hid (victL c x = diffL c.pages) := Lib.hid (by unfold victL; rw [hh]; simp [hf, h4])
        have h4' : (c.pol == 4) = true := by rw [beq_iff_eq]; exact h4
        clear h4
        obtain ⟨c0, c1, c2, c3, c4, fr⟩ := id hbox
        go_enter Tryz.func66, Tryz.ntmps66
        go_wp2_with fail
        refine (l1Has_any A _ _ x _ (hp.keep k0)).mono ?_
        rintro e w1 ⟨rfl, rfl⟩
        rw [hh]
        go_wp2_with fail
        refine (l4Sorted_any A _ _ _ (hp.keep k0)).mono ?_
        rintro e w2 ⟨v2, rfl, o2, k2⟩
        go_wp2_with fail
        go_ret
        exact ⟨_, rfl, by rw [HV.out]; exact o2.weak k0.size, k0.keep k2⟩
      · have hvi := victim_in hok hf
        have hfe : (c.pages.length : Int) = c.size := by have := hok.len; omega
        have HV : Hid (victL c x = [c.pages.getD (victim c) 0]) := Lib.hid (by unfold victL; rw [hh]; simp [hf, h4])
        have h4' : (c.pol == 4) = false := by rw [beq_eq_false_iff_ne]; exact h4
        have hvc := hv.keep k0
        obtain ⟨b, off, rfl, _, hb, hcl⟩ := hcell (by intro e; simp [e] at hvi)
        have hcv := (k0.cellD b (off + victim c) hb (fun e => e)).trans (hcl (victim c) hvi)
        obtain ⟨z, hz⟩ : ∃ z, c.pages.getD (victim c) 0 = z := ⟨_, rfl⟩
        rw [hz] at hcv HV
        have hb1 := Nat.lt_of_lt_of_le hb k0.size
        have hvi0 : (0 : Int) ≤ (victim c : Int) := Int.natCast_nonneg _
        have hvi1 : (victim c : Int) < (c.pages.length : Int) := by omega
        obtain ⟨c0, c1, c2, c3, c4, fr⟩ := id hbox
        clear hcl hcell hz
        have HOK := Lib.hid hok
        have HVC := Lib.hid hvc
        clear hvc
        go_enter Tryz.func66, Tryz.ntmps66
        go_wp2_with fail
        refine (l1Has_any A _ _ x _ (hp.keep k0)).mono ?_
        rintro e w1 ⟨rfl, rfl⟩
        rw [hh]
        go_wp2_with fail
        refine wp_region_K (S := fun W => Box W w.heap.size (.int .i64 c.pol) (.int .i64 c.size) (.slice (some ⟨b, off, none⟩) c.pages.length pc) (.slice ma mn mc) (.int .i64 c.hand)) (k := 4) (by kernel_rfl) ?_
        have hd0 : Chg No (w.alloc (.cells #[.int .i64 c.pol, .int .i64 c.size, .slice (some ⟨b, off, none⟩) c.pages.length pc, .slice ma mn mc, .int .i64 c.hand] 26)) _ := (Chg.refl No _).drew
        have hS : (fun W => Box W w.heap.size (.int .i64 c.pol) (.int .i64 c.size) (.slice (some ⟨b, off, none⟩) c.pages.length pc) (.slice ma mn mc) (.int .i64 c.hand)) _ := hbox.keep hd0
        have hcv := (hd0.cellD b (off + victim c) hb1 (fun e => e)).trans hcv
        have hvc := HVC.out.keep hd0
        have kd := k0.keep hd0
        clear c0 c1 c2 c3 c4 fr hbox
        generalize World.drew _ = W at hS hcv hvc kd ⊢
        clear hd0
        refine wpAnyK_take0 0 (.pointer (some ⟨w.heap.size, 2, none⟩)) rfl (by kernel_rfl) (fun _ _ _ h => h) hS rfl (by intro w; go_simp) ?_
        simp only [List.getElem_toArray, List.getElem_cons_zero, Act.put, List.setIfInBounds_toArray, List.set_cons_zero, List.set_cons_succ]
        refine wpAnyK_take 1 (.slice (some ⟨b, off, none⟩) c.pages.length pc) rfl (by kernel_rfl) (fun _ _ _ h => h) hS rfl (by rintro w ⟨c0, c1, c2, c3, c4, fr⟩; go_simp) ?_
        simp only [List.getElem_toArray, List.getElem_cons_succ, List.getElem_cons_zero, Act.put, List.setIfInBounds_toArray, List.set_cons_zero, List.set_cons_succ]
        refine wpAnyK_1 2 (by kernel_rfl) (wpOpK' rfl rfl ?_)
        intro K hK
        obtain ⟨c0, c1, c2, c3, c4, fr⟩ := id hS
        unfold Oper.wp execOp
        go_simp
        refine hK.out _ _ hS ?_
        clear hK K c0 c1 c2 c3 c4 fr
        simp only [List.setIfInBounds_toArray]
        refine wpAnyK_1 3 (by kernel_rfl) (wpOpK' rfl rfl ?_)
        intro K hK
        refine ocall (f := 135) (args := #[.agg #[.int .i64 c.pol, .int .i64 c.size, .slice (some ⟨b, off, none⟩) c.pages.length pc, .slice ma mn mc, .int .i64 c.hand]]) (by go_simp) (l4Victim_any A _ c W hvc HOK.out hfe) (fun v1 W1 h1 => hK.out _ _ (hS.keep h1.2) ?_)
        obtain ⟨rfl, k1⟩ := h1
        clear hK K
        simp only [List.getElem_toArray, List.getElem_cons_succ, List.getElem_cons_zero, Act.put, List.setIfInBounds_toArray, List.set_cons_zero, List.set_cons_succ]
        have hcv := (k1.cellD b (off + victim c) (Nat.lt_of_lt_of_le hb kd.size) (fun e => e)).trans hcv
        have k2 := kd.keep k1
        have hsz := k2.size
        refine wpAnyK_tail 4 rfl (by kernel_rfl) ?_
        simp only [List.drop_succ_cons, List.drop_zero]
        clear hS
        go_wp2_with fail
        go_ret
        exact ⟨_, rfl, by rw [HV.out]; exact OI.one hsz, k2.alloc _⟩
  · have HV : Hid (victL c x = []) := Lib.hid (by unfold victL; rw [hh]; rfl)
    obtain ⟨c0, c1, c2, c3, c4, fr⟩ := id hbox
    go_enter Tryz.func66, Tryz.ntmps66
    go_wp2_with fail
    refine (l1Has_any A _ _ x _ (hp.keep k0)).mono ?_
    rintro e w1 ⟨rfl, rfl⟩
    rw [hh]
    go_wp2_with fail
    go_ret
    exact ⟨_, rfl, by rw [HV.out]; exact OI.zeroAt (World.size_alloc ..) (Nat.le_succ _), k0.alloc _⟩
end Go.Proofs.YtegipldajbkjfaaGreat
