import Derived.Test.YtmdcmfnpfkfocaaRn
import Derived.Test.YtmdcmfnpfkfocaaSl
/- the law of RunCache returns true -/
namespace Go.Proofs.Ytmdcmfnpfkfocaa
open Go.RowKit

theorem runV_small {n : Int} {c : Ca} {l : List Int} (hm : c.marks.length ≤ 1048576) : (runV n c l).pages.length ≤ 6 ∧ (runV n c l).marks.length ≤ 1048576 := by
  unfold runV
  split
  · rename_i h
    have hg : goodC n c = true := by simp only [okR, Bool.and_eq_true] at h; exact h.1
    exact runC_small (goodC_ok hg) hm l
  · simp [zeroC]

set_option maxRecDepth 100000 in
set_option maxHeartbeats 4000000 in
theorem lawRunCache_any (n : Int) (v rv : Value) (c : Ca) (l : List Int) (w : World) (hv : RC No w v c) (hr : RI No w rv l) (hl : c.pages.length + c.marks.length ≤ 1048576) (hll : l.length ≤ 1048576) :
    Calls Try.prog 5 #[.int .i64 n, v, rv] w fun e w' => e = .returned (.bool true) ∧ Chg No w w' := by
  obtain ⟨ra, rc, rfl, _⟩ := id hr
  obtain ⟨pv, mv, rfl, hp, hmk⟩ := id hv
  obtain ⟨pa, pc, rfl, _, _, hpl, _⟩ := id hp
  obtain ⟨ma, mc, rfl, _, _, hml, _⟩ := id hmk
  have k0 := (Chg.refl No w).alloc (.cells #[.int .i64 c.pol, .int .i64 c.size, .slice pa c.pages.length pc, .slice ma c.marks.length mc, .int .i64 c.hand] 24)
  have bx := Box.new w (.int .i64 c.pol) (.int .i64 c.size) (.slice pa c.pages.length pc) (.slice ma c.marks.length mc) (.int .i64 c.hand) 24
  have hz := szC_fit hl
  have hzn : ¬ (szC c.pages.length c.marks.length 1048576 < 0) := by omega
  have hz0 : (0 : Int) ≤ (c.pages.length : Int) := Int.natCast_nonneg _
  have hz1 : (0 : Int) ≤ (c.marks.length : Int) := Int.natCast_nonneg _
  have HK1 : Hid ((0 : Int) ≤ 1 ∧ 1 + (c.pages.length : Int) ≤ 100000000) := Lib.hid (by omega)
  have hl0 : (0 : Int) ≤ (l.length : Int) := Int.natCast_nonneg _
  have hle : ¬ (1048576 : Int) < (l.length : Int) := by omega
  have HKL : Hid (0 ≤ 1 + (c.pages.length : Int) + (c.marks.length : Int) ∧ 1 + (c.pages.length : Int) + (c.marks.length : Int) ≤ 100000000) := Lib.hid (by omega)
  have hkn : ¬ (1 + (c.pages.length : Int) + (c.marks.length : Int) + (l.length : Int) < 0) := by omega
  have hp1 : c.pages.length ≤ 9223372036854775807 := by omega
  have hm1 : c.marks.length ≤ 9223372036854775807 := by omega
  obtain ⟨r, hR⟩ : ∃ r, runV n c l = r := ⟨_, rfl⟩
  have hrt : r.pages.length ≤ 6 ∧ r.marks.length ≤ 1048576 := hR ▸ runV_small (by omega)
  clear hz hl hpl hml hz0 hz1
  have HR := Lib.hid hR
  clear hR hl0 hll
  have hr0 : (0 : Int) ≤ (r.pages.length : Int) := Int.natCast_nonneg _
  have hr1 : (0 : Int) ≤ (r.marks.length : Int) := Int.natCast_nonneg _
  have HK2 : Hid ((0 : Int) ≤ 1 ∧ 1 + (r.pages.length : Int) ≤ 100000000) := Lib.hid (by omega)
  have HK3 : Hid (r.marks.length ≤ 100000000) := Lib.hid (by omega)
  have hrn : ¬ (1 + (r.pages.length : Int) + (r.marks.length : Int) < 0) := by omega
  clear hrt hr0 hr1
  go_enter Try.func5, Try.ntmps5
  go_wp2_with fail
  refine (szCache_any _ _ _ _ _ _ _ _ _ _ _ hp1 hm1 (by omega) (by omega)).mono ?_
  rintro e w0 ⟨_, rfl, rfl, k0'⟩
  have kk := k0.keep k0'
  have bx := bx.keep k0'
  clear k0
  obtain ⟨c0, c1, c2, c3, c4, fr⟩ := id bx
  go_wp2_with fail
  refine (toCache_any No _ c _ (hv.keep kk)).mono ?_
  rintro e w1 ⟨t1, rfl, o1, k1⟩
  have kk := kk.keep k1
  have bx := bx.keep k1
  clear c0 c1 c2 c3 c4 fr
  go_wp2_with fail
  refine (toIntS_any No _ l w1 (hr.keep kk)).mono ?_
  rintro e w1' ⟨u1, rfl, ou1, k1'⟩
  have kk := kk.keep k1'
  have bx := bx.keep k1'
  have o1 := o1.keep k1'
  go_wp2_with fail
  refine (specRunCache_any n t1 u1 c l w1' o1.readNo ou1.readNo).mono ?_
  rintro e w2 ⟨v0, _, vb, rfl, rfl, rfl, ow, k2⟩
  rw [HR.out] at ow
  have kk := kk.keep k2
  have bx := bx.keep k2
  obtain ⟨a8, n8, q8, b8, m8, p8, rfl⟩ := ow.shape
  obtain ⟨c0, c1, c2, c3, c4, fr⟩ := bx.keep ((Chg.refl No w2).alloc (.cells #[.int .i64 r.pol, .int .i64 r.size, .slice a8 n8 q8, .slice b8 m8 p8, .int .i64 r.hand] 28))
  go_wp2_with fail
  refine box1 (R := fun W => Calls _ _ _ W _) (fun W2 kW bw => ?_)
  have hN := bx.lt
  have hzW := bw.lt
  have ow0 := ow.lt
  have ow := ow.keep kW
  have kk := kk.keep kW
  have bx := bx.keep kW
  clear c0 c1 c2 c3 c4 fr
  refine (toCache_any No _ c _ (hv.keep kk)).mono ?_
  rintro e w3 ⟨x3, rfl, ox, k3⟩
  have kk := kk.keep k3
  have bx := bx.keep k3
  have bw := bw.keep k3
  have ow := ow.keep k3
  obtain ⟨xa, xn, xc, ya, yn, yc, rfl⟩ := ox.shape
  obtain ⟨c0, c1, c2, c3, c4, fr⟩ := id bx
  go_wp2_with fail
  refine box1 (R := fun W => Calls _ _ _ W _) (fun W3 kW3 bxx => ?_)
  have hz3 := k3.size
  have hzW3 := bxx.lt
  have ox0 := ox.lt
  have ox := ox.keep kW3
  have kk := kk.keep kW3
  have bx := bx.keep kW3
  have bw := bw.keep kW3
  have ow := ow.keep kW3
  clear c0 c1 c2 c3 c4 fr
  refine (toIntS_any No _ l W3 (hr.keep kk)).mono ?_
  rintro e w3' ⟨y2, rfl, oy, k3'⟩
  have oy0 := oy.lt
  have hz3' := k3'.size
  have kk := kk.keep k3'
  have bx := bx.keep k3'
  have bw := bw.keep k3'
  have bxx := bxx.keep k3'
  have ow := ow.keep k3'
  have ox := ox.keep k3'
  obtain ⟨d0, d1, d2, d3, d4, dr⟩ := id bxx
  go_wp2_with fail
  refine (implRunCache_any n _ y2 c l w3' ox.readNo oy.readNo).mono ?_
  rintro e w4 ⟨g0, _, gb, rfl, rfl, rfl, og, k4⟩
  have oy := oy.keep k4
  clear d0 d1 d2 d3 d4 dr
  rw [HR.out] at og
  have hz4 := k4.size
  have kk := kk.keep k4
  have bx := bx.keep k4
  have bw := bw.keep k4
  have bxx := bxx.keep k4
  have ow := ow.keep k4
  have ox := ox.keep k4
  obtain ⟨ga, gn, gc, ha, hn, hc, rfl⟩ := og.shape
  have og0 := og.lt
  obtain ⟨c0, c1, c2, c3, c4, fr⟩ := bw.keep ((Chg.refl No w4).alloc (.cells #[.int .i64 r.pol, .int .i64 r.size, .slice ga gn gc, .slice ha hn hc, .int .i64 r.hand] 28))
  go_wp2_with fail
  refine box1 (R := fun W => Calls _ _ _ W _) (fun W4 kW4 bg => ?_)
  have og := og.keep kW4
  have oy := oy.keep kW4
  have kk := kk.keep kW4
  have bx := bx.keep kW4
  have bw := bw.keep kW4
  have bxx := bxx.keep kW4
  have ow := ow.keep kW4
  have ox := ox.keep kW4
  obtain ⟨V0, hV0⟩ : ∃ V0, Value.agg #[.int .i64 r.pol, .int .i64 r.size, .slice a8 n8 q8, .slice b8 m8 p8, .int .i64 r.hand] = V0 := ⟨_, rfl⟩
  obtain ⟨X0, hX0⟩ : ∃ X0, Value.agg #[.int .i64 c.pol, .int .i64 c.size, .slice xa xn xc, .slice ya yn yc, .int .i64 c.hand] = X0 := ⟨_, rfl⟩
  obtain ⟨G0, hG0⟩ : ∃ G0, Value.agg #[.int .i64 r.pol, .int .i64 r.size, .slice ga gn gc, .slice ha hn hc, .int .i64 r.hand] = G0 := ⟨_, rfl⟩
  rw [hV0] at ow ow0
  rw [hX0] at ox ox0
  rw [hG0] at og og0
  have dvx : ∀ q, ownC V0 q → ¬ ownC X0 q := fun q h1 h2 => by have := (ow0 q h1).2; have := (ox0 q h2).1; omega
  have dgx : ∀ q, ownC G0 q → ¬ ownC X0 q := fun q h1 h2 => by have := (og0 q h1).1; have := (ox0 q h2).2; omega
  have dgv : ∀ q, ownC G0 q → ¬ ownC V0 q := fun q h1 h2 => by have := (og0 q h1).1; have := (ow0 q h2).2; omega
  have dvy : ∀ q, ownC V0 q → ¬ own y2 q := fun q h1 h2 => by have := (ow0 q h1).2; have := (oy0 q h2).1; omega
  have dgy : ∀ q, ownC G0 q → ¬ own y2 q := fun q h1 h2 => by have := (og0 q h1).1; have := (oy0 q h2).2; omega
  have dxy : ∀ q, own y2 q → ¬ ownC X0 q := fun q h1 h2 => by have := (ox0 q h2).2; have := (oy0 q h1).1; omega
  have hy0 : ∀ q, own y2 q → w3.heap.size < q ∧ q < w3'.heap.size := fun q h1 => by have := oy0 q h1; omega
  have DVY := Lib.hid dvy
  have DGY := Lib.hid dgy
  have DXY := Lib.hid dxy
  have HY0 := Lib.hid hy0
  have HN2 : Hid (w3.heap.size < w3'.heap.size ∧ w3'.heap.size ≤ w4.heap.size) := Lib.hid (by omega)
  have hx0 : ∀ q, ownC X0 q → w2.heap.size < q ∧ q < w3.heap.size := fun q h1 => by have := ox0 q h1; omega
  have hg0 : ∀ q, ownC G0 q → w3.heap.size < q ∧ q < w4.heap.size := fun q h1 => by have := og0 q h1; omega
  have DVX := Lib.hid dvx
  have DGX := Lib.hid dgx
  have DGV := Lib.hid dgv
  have HX0 := Lib.hid hx0
  have HG0 := Lib.hid hg0
  have HN : Hid (w.heap.size < w2.heap.size ∧ w2.heap.size < w3.heap.size ∧ w3.heap.size < w4.heap.size) := Lib.hid (by omega)
  have HX := Lib.hid hX0
  have HV := Lib.hid hV0
  have HG := Lib.hid hG0
  clear dvy dgy dxy hy0 oy0 hz3' dvx dgx dgv hx0 hg0 ow0 ox0 og0 hz3 hz4 hzW hzW3 hN hX0 hV0 hG0
  clear c0 c1 c2 c3 c4 fr
  have e5 := eqCache_same No No G0 V0 r W4 og.readNo ow.readNo
  rw [← HG.out, ← HV.out] at e5
  refine e5.mono ?_
  rintro e w5 ⟨_, rfl, rfl, k5⟩
  clear e5
  have kk := kk.keep k5
  have bx := bx.keep k5
  have bw := bw.keep k5
  have bxx := bxx.keep k5
  have bg := bg.keep k5
  have ow := ow.keep k5
  have ox := ox.keep k5
  have og := og.keep k5
  have oy := oy.keep k5
  go_wp2_with fail
  -- REGION: the argument is as it was
  refine wp_region_K (S := fun W => Box W w3.heap.size (.int .i64 c.pol) (.int .i64 c.size) (.slice xa xn xc) (.slice ya yn yc) (.int .i64 c.hand)) (k := 3) (by kernel_rfl) ?_
  have hd := (Chg.refl No w5).drew
  have kk := kk.keep hd
  have bx := bx.keep hd
  have bw := bw.keep hd
  have bxx := bxx.keep hd
  have bg := bg.keep hd
  have ow := ow.keep hd
  have ox := ox.keep hd
  have og := og.keep hd
  have oy := oy.keep hd
  generalize w5.drew = W5 at kk bx bw bxx bg ow ox og oy ⊢
  clear hd
  refine wpAnyK_take 0 (.agg #[.int .i64 c.pol, .int .i64 c.size, .slice xa xn xc, .slice ya yn yc, .int .i64 c.hand]) rfl (by kernel_rfl) (fun _ _ _ h => h) bxx rfl (by rintro w ⟨c0, c1, c2, c3, c4, fr⟩; go_simp) ?_
  simp only [List.getElem_toArray, List.getElem_cons_zero, Act.put, List.setIfInBounds_toArray, List.set_cons_zero, List.set_cons_succ]
  refine wpAnyK_1 1 (by kernel_rfl) (wpOpK' rfl rfl ?_)
  intro K hK
  obtain ⟨c0, c1, c2, c3, c4, fr⟩ := id bx
  unfold Oper.wp execOp
  go_simp
  refine hK.out _ _ bxx ?_
  clear hK K c0 c1 c2 c3 c4 fr
  simp only [List.setIfInBounds_toArray]
  refine wpAnyK_1 2 (by kernel_rfl) (wpOpK' rfl rfl ?_)
  intro K hK
  refine ocall (f := 11) (args := #[.agg #[.int .i64 c.pol, .int .i64 c.size, .slice pa c.pages.length pc, .slice ma c.marks.length mc, .int .i64 c.hand]]) (by go_simp) (toCache_any No _ c W5 (hv.keep kk)) (fun v6 w6 h6 => hK.out _ _ (bxx.keep h6.2) ?_)
  obtain ⟨o6, k6⟩ := h6
  clear hK K
  simp only [List.getElem_toArray, List.getElem_cons_succ, List.getElem_cons_zero, Act.put, List.setIfInBounds_toArray, List.set_cons_zero, List.set_cons_succ]
  have kk := kk.keep k6
  have bx := bx.keep k6
  have bw := bw.keep k6
  have bg := bg.keep k6
  have ow := ow.keep k6
  have og := og.keep k6
  have oy := oy.keep k6
  have bxx := bxx.keep k6
  have ox := ox.keep k6
  refine wpAnyK_tail 3 rfl (by kernel_rfl) ?_
  simp only [List.drop_succ_cons, List.drop_zero]
  go_wp2_with fail
  have e7 := eqCache_same No No X0 _ c w6 ox.readNo o6.readNo
  rw [← HX.out] at e7
  refine e7.mono ?_
  rintro e w7 ⟨_, rfl, rfl, k7⟩
  clear e7
  have kk := kk.keep k7
  have bx := bx.keep k7
  have bw := bw.keep k7
  have bg := bg.keep k7
  have bxx := bxx.keep k7
  have ow := ow.keep k7
  have ox := ox.keep k7
  have og := og.keep k7
  have oy := oy.keep k7
  go_wp2_with fail
  refine (toIntS_any No _ l w7 (hr.keep kk)).mono ?_
  rintro e w7' ⟨u7, rfl, ou7, k7'⟩
  have kk := kk.keep k7'
  have bx := bx.keep k7'
  have bw := bw.keep k7'
  have bg := bg.keep k7'
  have bxx := bxx.keep k7'
  have ow := ow.keep k7'
  have ox := ox.keep k7'
  have og := og.keep k7'
  have oy := oy.keep k7'
  go_wp2_with fail
  refine (eqIntS_same No No y2 u7 l w7' oy.readNo ou7.readNo).mono ?_
  rintro e w7x ⟨_, rfl, rfl, k7x⟩
  have kk := kk.keep k7x
  have bx := bx.keep k7x
  have bw := bw.keep k7x
  have bg := bg.keep k7x
  have bxx := bxx.keep k7x
  have ow := ow.keep k7x
  have ox := ox.keep k7x
  have og := og.keep k7x
  have oy := oy.keep k7x
  obtain ⟨d0, d1, d2, d3, d4, dr⟩ := id bxx
  go_wp2_with fail
  have e8 := markCache_any _ X0 c 1 w7x ox HK1.out
  rw [← HX.out] at e8
  refine e8.mono ?_
  rintro e w8 ⟨_, rfl, rfl, _, k8⟩
  rw [HX.out] at k8
  clear d0 d1 d2 d3 d4 dr bxx ox e8
  have ow := ow.step k8 DVX.out
  have og := og.step k8 DGX.out
  have bx := bx.step k8 (fun hq => by have := HX0.out _ hq; have := HN.out; omega)
  have bw := bw.step k8 (fun hq => by have := HX0.out _ hq; omega)
  have bg := bg.step k8 (fun hq => by have := HX0.out _ hq; have := HN.out; omega)
  have kk := kk.step k8 (fun q hq hl => by have := HX0.out q hq; have := HN.out; omega)
  have oy := oy.step k8 DXY.out
  go_wp2_with fail
  refine (markIntS_any _ y2 l _ w8 oy HKL.out).mono ?_
  rintro e w8' ⟨_, rfl, rfl, _, k8'⟩
  clear oy
  have ow := ow.step k8' DVY.out
  have og := og.step k8' DGY.out
  have bx := bx.step k8' (fun hq => by have := HY0.out _ hq; have := HN.out; omega)
  have bw := bw.step k8' (fun hq => by have := HY0.out _ hq; have := HN.out; omega)
  have bg := bg.step k8' (fun hq => by have := HY0.out _ hq; have := HN2.out; omega)
  have kk := kk.step k8' (fun q hq hl => by have := HY0.out q hq; have := HN.out; omega)
  obtain ⟨c0, c1, c2, c3, c4, fr⟩ := id bw
  obtain ⟨d0, d1, d2, d3, d4, dr⟩ := id bg
  go_wp2_with fail
  have e9 := eqCache_same No No G0 V0 r w8' og.readNo ow.readNo
  rw [← HG.out, ← HV.out] at e9
  refine e9.mono ?_
  rintro e w9 ⟨_, rfl, rfl, k9⟩
  have kk := kk.keep k9
  have bx := bx.keep k9
  have bw := bw.keep k9
  have bg := bg.keep k9
  have ow := ow.keep k9
  have og := og.keep k9
  clear c0 c1 c2 c3 c4 fr d0 d1 d2 d3 d4 dr e9
  obtain ⟨d0, d1, d2, d3, d4, dr⟩ := id bg
  go_wp2_with fail
  have e10 := markCache_any _ G0 r 1 w9 og HK2.out
  rw [← HG.out] at e10
  refine e10.mono ?_
  rintro e w10 ⟨_, rfl, rfl, og, k10⟩
  rw [HG.out] at og k10
  clear d0 d1 d2 d3 d4 dr e10
  have ow := ow.step k10 (fun q h1 h2 => DGV.out q h2 h1)
  have bx := bx.step k10 (fun hq => by have := HG0.out _ hq; have := HN.out; omega)
  have bw := bw.step k10 (fun hq => by have := HG0.out _ hq; have := HN.out; omega)
  have bg := bg.step k10 (fun hq => by have := HG0.out _ hq; omega)
  have kk := kk.step k10 (fun q hq hl => by have := HG0.out q hq; have := HN.out; omega)
  obtain ⟨d0, d1, d2, d3, d4, dr⟩ := id bg
  go_wp2_with fail
  have e11 := heldCache_any No G0 r 1 w10 og.readNo HK2.out HK3.out
  rw [← HG.out] at e11
  refine e11.mono ?_
  rintro e w11 ⟨_, rfl, rfl, k11⟩
  have kk := kk.keep k11
  have bx := bx.keep k11
  have bw := bw.keep k11
  have bg := bg.keep k11
  have ow := ow.keep k11
  have og := og.keep k11
  clear d0 d1 d2 d3 d4 dr e11
  obtain ⟨c0, c1, c2, c3, c4, fr⟩ := id bx
  go_wp2_with fail
  refine (toCache_any No _ c _ (hv.keep kk)).mono ?_
  rintro e w12 ⟨t3, rfl, o3, k12⟩
  have kk := kk.keep k12
  have bw := bw.keep k12
  have bg := bg.keep k12
  have ow := ow.keep k12
  have og := og.keep k12
  clear c0 c1 c2 c3 c4 fr bx
  go_wp2_with fail
  refine (toIntS_any No _ l w12 (hr.keep kk)).mono ?_
  rintro e w12' ⟨u3, rfl, ou3, k12'⟩
  have kk := kk.keep k12'
  have bw := bw.keep k12'
  have bg := bg.keep k12'
  have ow := ow.keep k12'
  have og := og.keep k12'
  have o3 := o3.keep k12'
  go_wp2_with fail
  refine (implRunCache_any n t3 u3 c l w12' o3.readNo ou3.readNo).mono ?_
  rintro e w13 ⟨h0, _, hb, rfl, rfl, rfl, oh, k13⟩
  rw [HR.out] at oh
  have kk := kk.keep k13
  have bw := bw.keep k13
  have bg := bg.keep k13
  have ow := ow.keep k13
  have og := og.keep k13
  obtain ⟨ja, jn, jc, la, ln, lc, rfl⟩ := oh.shape
  have kal := (Chg.refl No w13).alloc (.cells #[.int .i64 r.pol, .int .i64 r.size, .slice ja jn jc, .slice la ln lc, .int .i64 r.hand] 28)
  obtain ⟨c0, c1, c2, c3, c4, fr⟩ := bw.keep kal
  go_wp2_with fail
  have e14 := eqCache_same No No _ V0 r _ (oh.keep kal).readNo (ow.keep kal).readNo
  rw [← HV.out] at e14
  refine e14.mono ?_
  rintro e w14 ⟨_, rfl, rfl, k14⟩
  have kk := (kk.keep kal).keep k14
  have bg := (bg.keep kal).keep k14
  have og := (og.keep kal).keep k14
  clear c0 c1 c2 c3 c4 fr e14 bw ow
  obtain ⟨d0, d1, d2, d3, d4, dr⟩ := id bg
  go_wp2_with fail
  have e15 := heldCache_any No G0 r 1 w14 og.readNo HK2.out HK3.out
  rw [← HG.out] at e15
  refine e15.mono ?_
  rintro e w15 ⟨_, rfl, rfl, k15⟩
  go_wp2_with fail
  go_ret
  exact ⟨rfl, kk.keep k15⟩

set_option maxRecDepth 100000 in
set_option maxHeartbeats 1000000 in
theorem lawRunCache_all (n p k hd : Int) (a a' a'' : Option Addr) (m q m' q' m'' q'' : Nat) (w : World) (hm : m ≤ 9223372036854775807) (hm' : m' ≤ 9223372036854775807)
    (h : m ≤ 17592186044416 → ∃ l : List Int, l.length = m ∧ RI No w (.slice a m q) l) (h' : m' ≤ 17592186044416 → ∃ l : List Int, l.length = m' ∧ RI No w (.slice a' m' q') l)
    (h'' : m'' ≤ 17592186044416 → ∃ l : List Int, l.length = m'' ∧ RI No w (.slice a'' m'' q'') l) :
    Calls Try.prog 5 #[.int .i64 n, .agg #[.int .i64 p, .int .i64 k, .slice a m q, .slice a' m' q', .int .i64 hd], .slice a'' m'' q''] w fun e w' => e = .returned (.bool true) ∧ Chg No w w' := by
  by_cases hll : m'' ≤ 1048576
  · have hle : ¬ (1048576 : Int) < (m'' : Int) := by omega
    by_cases hl : m + m' ≤ 1048576
    · obtain ⟨l, rfl, hr⟩ := h (by omega)
      obtain ⟨l', rfl, hr'⟩ := h' (by omega)
      obtain ⟨l'', rfl, hr''⟩ := h'' (by omega)
      exact lawRunCache_any n _ _ ⟨p, k, l, l', hd⟩ l'' w ⟨_, _, rfl, hr, hr'⟩ hr'' hl hll
    · have hz := szC_no hl
      clear hl h h' h'' hll
      have k0 := (Chg.refl No w).alloc (.cells #[.int .i64 p, .int .i64 k, .slice a m q, .slice a' m' q', .int .i64 hd] 24)
      go_enter Try.func5, Try.ntmps5
      go_wp2_with fail
      refine (szCache_any _ _ _ _ _ _ _ _ _ _ _ hm hm' (by omega) (by omega)).mono ?_
      rintro e w0 ⟨_, rfl, rfl, k0'⟩
      rw [hz]
      go_wp2_with fail
      go_ret
      exact ⟨rfl, k0.keep k0'⟩
  · have hle : (1048576 : Int) < (m'' : Int) := by omega
    clear hll h h' h''
    have k0 := (Chg.refl No w).alloc (.cells #[.int .i64 p, .int .i64 k, .slice a m q, .slice a' m' q', .int .i64 hd] 24)
    go_enter Try.func5, Try.ntmps5
    go_wp2_with fail
    go_ret
    exact ⟨rfl, k0⟩
end Go.Proofs.Ytmdcmfnpfkfocaa
