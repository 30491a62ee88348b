import Derived.Test.YtmdcmfnpfkfocaaSt
import Derived.Test.YtmdcmfnpfkfocaaVl
/- the law of StepCache returns true -/
namespace Go.Proofs.Ytmdcmfnpfkfocaa
open Go.RowKit

theorem stepC_pol (c : Ca) (x : Int) : (stepC c x).pol = c.pol := by
  unfold stepC hitC faultC clockC
  repeat' split
  all_goals rfl
theorem stepC_marks {c : Ca} (h5 : c.pol ≠ 5) (h6 : c.pol ≠ 6) (x : Int) : (stepC c x).marks = c.marks := by
  unfold stepC hitC faultC clockC
  repeat' split
  all_goals first | rfl | contradiction
theorem runC_marks {c : Ca} (h5 : c.pol ≠ 5) (h6 : c.pol ≠ 6) (l : List Int) : (runC c l).marks = c.marks := by
  induction l generalizing c with
  | nil => rfl
  | cons x l ih =>
    show (runC (stepC c x) l).marks = _
    rw [ih (by rw [stepC_pol]; exact h5) (by rw [stepC_pol]; exact h6), stepC_marks h5 h6]
theorem runC_pol (c : Ca) (l : List Int) : (runC c l).pol = c.pol := by
  induction l generalizing c with
  | nil => rfl
  | cons x l ih => show (runC (stepC c x) l).pol = _; rw [ih, stepC_pol]
theorem runC_small {c : Ca} (ho : Ok c) (hm : c.marks.length ≤ 1048576) (l : List Int) : (runC c l).pages.length ≤ 6 ∧ (runC c l).marks.length ≤ 1048576 := by
  have h := ok_run ho l
  have h1 := h.len
  have h2 := h.size
  refine ⟨by omega, ?_⟩
  by_cases h56 : c.pol = 5 ∨ c.pol = 6
  · have := h.marks (by rw [runC_pol]; exact h56)
    omega
  · rw [runC_marks (fun e => h56 (.inl e)) (fun e => h56 (.inr e))]
    exact hm
theorem stepV_small {n x : Int} {c : Ca} (hm : c.marks.length ≤ 1048576) : (stepV n c x).pages.length ≤ 6 ∧ (stepV n c x).marks.length ≤ 1048576 := by
  unfold stepV
  split
  · rename_i h
    have hg : goodC n c = true := by simp only [okB, Bool.and_eq_true] at h; exact h.1
    exact runC_small (goodC_ok hg) hm [x]
  · simp [zeroC]
theorem RCO.shape {base : Nat} {w : World} {v : Value} {c : Ca} (h : RCO base w v c) : ∃ a n q a' n' q', v = .agg #[.int .i64 c.pol, .int .i64 c.size, .slice a n q, .slice a' n' q', .int .i64 c.hand] := by
  obtain ⟨xp, xm, rfl, hxp, hxm, _⟩ := h
  obtain ⟨xa, xn, xc, rfl⟩ := hxp.shape
  obtain ⟨ya, yn, yc, rfl⟩ := hxm.shape
  exact ⟨_, _, _, _, _, _, rfl⟩

set_option maxRecDepth 100000 in
set_option maxHeartbeats 4000000 in
theorem lawStepCache_any (n x : Int) (v : Value) (c : Ca) (w : World) (hv : RC No w v c) (hl : c.pages.length + c.marks.length ≤ 1048576) :
    Calls Try.prog 4 #[.int .i64 n, v, .int .i64 x] w fun e w' => e = .returned (.bool true) ∧ Chg No w w' := by
  obtain ⟨pv, mv, rfl, hp, hmk⟩ := id hv
  obtain ⟨pa, pc, rfl, _, _, hpl, _⟩ := id hp
  obtain ⟨ma, mc, rfl, _, _, hml, _⟩ := id hmk
  have k0 := (Chg.refl No w).alloc (.cells #[.int .i64 c.pol, .int .i64 c.size, .slice pa c.pages.length pc, .slice ma c.marks.length mc, .int .i64 c.hand] 24)
  have bx := Box.new w (.int .i64 c.pol) (.int .i64 c.size) (.slice pa c.pages.length pc) (.slice ma c.marks.length mc) (.int .i64 c.hand) 24
  have hz := szC_fit hl
  have hzn : ¬ (szC c.pages.length c.marks.length 1048576 < 0) := by omega
  have hz0 : (0 : Int) ≤ (c.pages.length : Int) := Int.natCast_nonneg _
  have hz1 : (0 : Int) ≤ (c.marks.length : Int) := Int.natCast_nonneg _
  have HK1 : Hid ((0 : Int) ≤ 1 ∧ 1 + (c.pages.length : Int) ≤ 100000000) := Lib.hid (by omega)
  have hkn : ¬ (1 + (c.pages.length : Int) + (c.marks.length : Int) < 0) := by omega
  have hp1 : c.pages.length ≤ 9223372036854775807 := by omega
  have hm1 : c.marks.length ≤ 9223372036854775807 := by omega
  obtain ⟨r, hr⟩ : ∃ r, stepV n c x = r := ⟨_, rfl⟩
  have hrt : r.pages.length ≤ 6 ∧ r.marks.length ≤ 1048576 := hr ▸ stepV_small (by omega)
  clear hz hl hpl hml hz0 hz1
  have HR := Lib.hid hr
  clear hr
  have hr0 : (0 : Int) ≤ (r.pages.length : Int) := Int.natCast_nonneg _
  have hr1 : (0 : Int) ≤ (r.marks.length : Int) := Int.natCast_nonneg _
  have HK2 : Hid ((0 : Int) ≤ 1 ∧ 1 + (r.pages.length : Int) ≤ 100000000) := Lib.hid (by omega)
  have HK3 : Hid (r.marks.length ≤ 100000000) := Lib.hid (by omega)
  have hrn : ¬ (1 + (r.pages.length : Int) + (r.marks.length : Int) < 0) := by omega
  clear hrt hr0 hr1
  go_enter Try.func4, Try.ntmps4
  go_wp2_with fail
  refine (szCache_any _ _ _ _ _ _ _ _ _ _ _ hp1 hm1 (by omega) (by omega)).mono ?_
  rintro e w0 ⟨_, rfl, rfl, k0'⟩
  have kk := k0.keep k0'
  have bx := bx.keep k0'
  clear k0
  obtain ⟨c0, c1, c2, c3, c4, fr⟩ := id bx
  go_wp2_with fail
  refine (toCache_any No _ c _ (hv.keep kk)).mono ?_
  rintro e w1 ⟨t1, rfl, o1, k1⟩
  have kk := kk.keep k1
  have bx := bx.keep k1
  clear c0 c1 c2 c3 c4 fr
  go_wp2_with fail
  refine (specStepCache_any n x t1 c w1 o1.readNo).mono ?_
  rintro e w2 ⟨v0, vb, rfl, rfl, ow, k2⟩
  rw [HR.out] at ow
  have kk := kk.keep k2
  have bx := bx.keep k2
  obtain ⟨a8, n8, q8, b8, m8, p8, rfl⟩ := ow.shape
  obtain ⟨c0, c1, c2, c3, c4, fr⟩ := bx.keep ((Chg.refl No w2).alloc (.cells #[.int .i64 r.pol, .int .i64 r.size, .slice a8 n8 q8, .slice b8 m8 p8, .int .i64 r.hand] 28))
  go_wp2_with fail
  refine box1 (R := fun W => Calls _ _ _ W _) (fun W2 kW bw => ?_)
  have hN := bx.lt
  have hzW := bw.lt
  have ow0 := ow.lt
  have ow := ow.keep kW
  have kk := kk.keep kW
  have bx := bx.keep kW
  clear c0 c1 c2 c3 c4 fr
  refine (toCache_any No _ c _ (hv.keep kk)).mono ?_
  rintro e w3 ⟨x3, rfl, ox, k3⟩
  have kk := kk.keep k3
  have bx := bx.keep k3
  have bw := bw.keep k3
  have ow := ow.keep k3
  obtain ⟨xa, xn, xc, ya, yn, yc, rfl⟩ := ox.shape
  obtain ⟨c0, c1, c2, c3, c4, fr⟩ := id bx
  go_wp2_with fail
  refine box1 (R := fun W => Calls _ _ _ W _) (fun W3 kW3 bxx => ?_)
  have hz3 := k3.size
  have hzW3 := bxx.lt
  have ox0 := ox.lt
  have ox := ox.keep kW3
  have kk := kk.keep kW3
  have bx := bx.keep kW3
  have bw := bw.keep kW3
  have ow := ow.keep kW3
  clear c0 c1 c2 c3 c4 fr
  refine (implStepCache_any n x _ c W3 ox.readNo).mono ?_
  rintro e w4 ⟨g0, gb, rfl, rfl, og, k4⟩
  rw [HR.out] at og
  have hz4 := k4.size
  have kk := kk.keep k4
  have bx := bx.keep k4
  have bw := bw.keep k4
  have bxx := bxx.keep k4
  have ow := ow.keep k4
  have ox := ox.keep k4
  obtain ⟨ga, gn, gc, ha, hn, hc, rfl⟩ := og.shape
  have og0 := og.lt
  obtain ⟨c0, c1, c2, c3, c4, fr⟩ := bw.keep ((Chg.refl No w4).alloc (.cells #[.int .i64 r.pol, .int .i64 r.size, .slice ga gn gc, .slice ha hn hc, .int .i64 r.hand] 28))
  go_wp2_with fail
  refine box1 (R := fun W => Calls _ _ _ W _) (fun W4 kW4 bg => ?_)
  have og := og.keep kW4
  have kk := kk.keep kW4
  have bx := bx.keep kW4
  have bw := bw.keep kW4
  have bxx := bxx.keep kW4
  have ow := ow.keep kW4
  have ox := ox.keep kW4
  obtain ⟨V0, hV0⟩ : ∃ V0, Value.agg #[.int .i64 r.pol, .int .i64 r.size, .slice a8 n8 q8, .slice b8 m8 p8, .int .i64 r.hand] = V0 := ⟨_, rfl⟩
  obtain ⟨X0, hX0⟩ : ∃ X0, Value.agg #[.int .i64 c.pol, .int .i64 c.size, .slice xa xn xc, .slice ya yn yc, .int .i64 c.hand] = X0 := ⟨_, rfl⟩
  obtain ⟨G0, hG0⟩ : ∃ G0, Value.agg #[.int .i64 r.pol, .int .i64 r.size, .slice ga gn gc, .slice ha hn hc, .int .i64 r.hand] = G0 := ⟨_, rfl⟩
  rw [hV0] at ow ow0
  rw [hX0] at ox ox0
  rw [hG0] at og og0
  have dvx : ∀ q, ownC V0 q → ¬ ownC X0 q := fun q h1 h2 => by have := (ow0 q h1).2; have := (ox0 q h2).1; omega
  have dgx : ∀ q, ownC G0 q → ¬ ownC X0 q := fun q h1 h2 => by have := (og0 q h1).1; have := (ox0 q h2).2; omega
  have dgv : ∀ q, ownC G0 q → ¬ ownC V0 q := fun q h1 h2 => by have := (og0 q h1).1; have := (ow0 q h2).2; omega
  have hx0 : ∀ q, ownC X0 q → w2.heap.size < q ∧ q < w3.heap.size := fun q h1 => by have := ox0 q h1; omega
  have hg0 : ∀ q, ownC G0 q → w3.heap.size < q ∧ q < w4.heap.size := fun q h1 => by have := og0 q h1; omega
  have DVX := Lib.hid dvx
  have DGX := Lib.hid dgx
  have DGV := Lib.hid dgv
  have HX0 := Lib.hid hx0
  have HG0 := Lib.hid hg0
  have HN : Hid (w.heap.size < w2.heap.size ∧ w2.heap.size < w3.heap.size ∧ w3.heap.size < w4.heap.size) := Lib.hid (by omega)
  have HX := Lib.hid hX0
  have HV := Lib.hid hV0
  have HG := Lib.hid hG0
  clear dvx dgx dgv hx0 hg0 ow0 ox0 og0 hz3 hz4 hzW hzW3 hN hX0 hV0 hG0
  clear c0 c1 c2 c3 c4 fr
  have e5 := eqCache_same No No G0 V0 r W4 og.readNo ow.readNo
  rw [← HG.out, ← HV.out] at e5
  refine e5.mono ?_
  rintro e w5 ⟨_, rfl, rfl, k5⟩
  clear e5
  have kk := kk.keep k5
  have bx := bx.keep k5
  have bw := bw.keep k5
  have bxx := bxx.keep k5
  have bg := bg.keep k5
  have ow := ow.keep k5
  have ox := ox.keep k5
  have og := og.keep k5
  go_wp2_with fail
  -- REGION: the argument is as it was
  refine wp_region_K (S := fun W => Box W w3.heap.size (.int .i64 c.pol) (.int .i64 c.size) (.slice xa xn xc) (.slice ya yn yc) (.int .i64 c.hand)) (k := 3) (by kernel_rfl) ?_
  have hd := (Chg.refl No w5).drew
  have kk := kk.keep hd
  have bx := bx.keep hd
  have bw := bw.keep hd
  have bxx := bxx.keep hd
  have bg := bg.keep hd
  have ow := ow.keep hd
  have ox := ox.keep hd
  have og := og.keep hd
  generalize w5.drew = W5 at kk bx bw bxx bg ow ox og ⊢
  clear hd
  refine wpAnyK_take 0 (.agg #[.int .i64 c.pol, .int .i64 c.size, .slice xa xn xc, .slice ya yn yc, .int .i64 c.hand]) rfl (by kernel_rfl) (fun _ _ _ h => h) bxx rfl (by rintro w ⟨c0, c1, c2, c3, c4, fr⟩; go_simp) ?_
  simp only [List.getElem_toArray, List.getElem_cons_zero, Act.put, List.setIfInBounds_toArray, List.set_cons_zero, List.set_cons_succ]
  refine wpAnyK_1 1 (by kernel_rfl) (wpOpK' rfl rfl ?_)
  intro K hK
  obtain ⟨c0, c1, c2, c3, c4, fr⟩ := id bx
  unfold Oper.wp execOp
  go_simp
  refine hK.out _ _ bxx ?_
  clear hK K c0 c1 c2 c3 c4 fr
  simp only [List.setIfInBounds_toArray]
  refine wpAnyK_1 2 (by kernel_rfl) (wpOpK' rfl rfl ?_)
  intro K hK
  refine ocall (f := 11) (args := #[.agg #[.int .i64 c.pol, .int .i64 c.size, .slice pa c.pages.length pc, .slice ma c.marks.length mc, .int .i64 c.hand]]) (by go_simp) (toCache_any No _ c W5 (hv.keep kk)) (fun v6 w6 h6 => hK.out _ _ (bxx.keep h6.2) ?_)
  obtain ⟨o6, k6⟩ := h6
  clear hK K
  simp only [List.getElem_toArray, List.getElem_cons_succ, List.getElem_cons_zero, Act.put, List.setIfInBounds_toArray, List.set_cons_zero, List.set_cons_succ]
  have kk := kk.keep k6
  have bx := bx.keep k6
  have bw := bw.keep k6
  have bg := bg.keep k6
  have ow := ow.keep k6
  have og := og.keep k6
  have bxx := bxx.keep k6
  have ox := ox.keep k6
  refine wpAnyK_tail 3 rfl (by kernel_rfl) ?_
  simp only [List.drop_succ_cons, List.drop_zero]
  go_wp2_with fail
  have e7 := eqCache_same No No X0 _ c w6 ox.readNo o6.readNo
  rw [← HX.out] at e7
  refine e7.mono ?_
  rintro e w7 ⟨_, rfl, rfl, k7⟩
  clear e7
  have kk := kk.keep k7
  have bx := bx.keep k7
  have bw := bw.keep k7
  have bg := bg.keep k7
  have bxx := bxx.keep k7
  have ow := ow.keep k7
  have ox := ox.keep k7
  have og := og.keep k7
  obtain ⟨d0, d1, d2, d3, d4, dr⟩ := id bxx
  go_wp2_with fail
  have e8 := markCache_any _ X0 c 1 w7 ox HK1.out
  rw [← HX.out] at e8
  refine e8.mono ?_
  rintro e w8 ⟨_, rfl, rfl, _, k8⟩
  rw [HX.out] at k8
  clear d0 d1 d2 d3 d4 dr bxx ox e8
  have ow := ow.step k8 DVX.out
  have og := og.step k8 DGX.out
  have bx := bx.step k8 (fun hq => by have := HX0.out _ hq; have := HN.out; omega)
  have bw := bw.step k8 (fun hq => by have := HX0.out _ hq; omega)
  have bg := bg.step k8 (fun hq => by have := HX0.out _ hq; have := HN.out; omega)
  have kk := kk.step k8 (fun q hq hl => by have := HX0.out q hq; have := HN.out; omega)
  obtain ⟨c0, c1, c2, c3, c4, fr⟩ := id bw
  obtain ⟨d0, d1, d2, d3, d4, dr⟩ := id bg
  go_wp2_with fail
  have e9 := eqCache_same No No G0 V0 r w8 og.readNo ow.readNo
  rw [← HG.out, ← HV.out] at e9
  refine e9.mono ?_
  rintro e w9 ⟨_, rfl, rfl, k9⟩
  have kk := kk.keep k9
  have bx := bx.keep k9
  have bw := bw.keep k9
  have bg := bg.keep k9
  have ow := ow.keep k9
  have og := og.keep k9
  clear c0 c1 c2 c3 c4 fr d0 d1 d2 d3 d4 dr e9
  obtain ⟨d0, d1, d2, d3, d4, dr⟩ := id bg
  go_wp2_with fail
  have e10 := markCache_any _ G0 r 1 w9 og HK2.out
  rw [← HG.out] at e10
  refine e10.mono ?_
  rintro e w10 ⟨_, rfl, rfl, og, k10⟩
  rw [HG.out] at og k10
  clear d0 d1 d2 d3 d4 dr e10
  have ow := ow.step k10 (fun q h1 h2 => DGV.out q h2 h1)
  have bx := bx.step k10 (fun hq => by have := HG0.out _ hq; have := HN.out; omega)
  have bw := bw.step k10 (fun hq => by have := HG0.out _ hq; have := HN.out; omega)
  have bg := bg.step k10 (fun hq => by have := HG0.out _ hq; omega)
  have kk := kk.step k10 (fun q hq hl => by have := HG0.out q hq; have := HN.out; omega)
  obtain ⟨d0, d1, d2, d3, d4, dr⟩ := id bg
  go_wp2_with fail
  have e11 := heldCache_any No G0 r 1 w10 og.readNo HK2.out HK3.out
  rw [← HG.out] at e11
  refine e11.mono ?_
  rintro e w11 ⟨_, rfl, rfl, k11⟩
  have kk := kk.keep k11
  have bx := bx.keep k11
  have bw := bw.keep k11
  have bg := bg.keep k11
  have ow := ow.keep k11
  have og := og.keep k11
  clear d0 d1 d2 d3 d4 dr e11
  obtain ⟨c0, c1, c2, c3, c4, fr⟩ := id bx
  go_wp2_with fail
  refine (toCache_any No _ c _ (hv.keep kk)).mono ?_
  rintro e w12 ⟨t3, rfl, o3, k12⟩
  have kk := kk.keep k12
  have bw := bw.keep k12
  have bg := bg.keep k12
  have ow := ow.keep k12
  have og := og.keep k12
  clear c0 c1 c2 c3 c4 fr bx
  go_wp2_with fail
  refine (implStepCache_any n x t3 c w12 o3.readNo).mono ?_
  rintro e w13 ⟨h0, hb, rfl, rfl, oh, k13⟩
  rw [HR.out] at oh
  have kk := kk.keep k13
  have bw := bw.keep k13
  have bg := bg.keep k13
  have ow := ow.keep k13
  have og := og.keep k13
  obtain ⟨ja, jn, jc, la, ln, lc, rfl⟩ := oh.shape
  have kal := (Chg.refl No w13).alloc (.cells #[.int .i64 r.pol, .int .i64 r.size, .slice ja jn jc, .slice la ln lc, .int .i64 r.hand] 28)
  obtain ⟨c0, c1, c2, c3, c4, fr⟩ := bw.keep kal
  go_wp2_with fail
  have e14 := eqCache_same No No _ V0 r _ (oh.keep kal).readNo (ow.keep kal).readNo
  rw [← HV.out] at e14
  refine e14.mono ?_
  rintro e w14 ⟨_, rfl, rfl, k14⟩
  have kk := (kk.keep kal).keep k14
  have bg := (bg.keep kal).keep k14
  have og := (og.keep kal).keep k14
  clear c0 c1 c2 c3 c4 fr e14 bw ow
  obtain ⟨d0, d1, d2, d3, d4, dr⟩ := id bg
  go_wp2_with fail
  have e15 := heldCache_any No G0 r 1 w14 og.readNo HK2.out HK3.out
  rw [← HG.out] at e15
  refine e15.mono ?_
  rintro e w15 ⟨_, rfl, rfl, k15⟩
  go_wp2_with fail
  go_ret
  exact ⟨rfl, kk.keep k15⟩

set_option maxRecDepth 100000 in
set_option maxHeartbeats 1000000 in
theorem lawStepCache_all (n p k hd x : Int) (a a' : Option Addr) (m q m' q' : Nat) (w : World) (hm : m ≤ 9223372036854775807) (hm' : m' ≤ 9223372036854775807)
    (h : m ≤ 17592186044416 → ∃ l : List Int, l.length = m ∧ RI No w (.slice a m q) l) (h' : m' ≤ 17592186044416 → ∃ l : List Int, l.length = m' ∧ RI No w (.slice a' m' q') l) :
    Calls Try.prog 4 #[.int .i64 n, .agg #[.int .i64 p, .int .i64 k, .slice a m q, .slice a' m' q', .int .i64 hd], .int .i64 x] w fun e w' => e = .returned (.bool true) ∧ Chg No w w' := by
  by_cases hl : m + m' ≤ 1048576
  · obtain ⟨l, rfl, hr⟩ := h (by omega)
    obtain ⟨l', rfl, hr'⟩ := h' (by omega)
    exact lawStepCache_any n x _ ⟨p, k, l, l', hd⟩ w ⟨_, _, rfl, hr, hr'⟩ hl
  · have hz := szC_no hl
    clear hl h h'
    have k0 := (Chg.refl No w).alloc (.cells #[.int .i64 p, .int .i64 k, .slice a m q, .slice a' m' q', .int .i64 hd] 24)
    go_enter Try.func4, Try.ntmps4
    go_wp2_with fail
    refine (szCache_any _ _ _ _ _ _ _ _ _ _ _ hm hm' (by omega) (by omega)).mono ?_
    rintro e w0 ⟨_, rfl, rfl, k0'⟩
    rw [hz]
    go_wp2_with fail
    go_ret
    exact ⟨rfl, k0.keep k0'⟩
end Go.Proofs.Ytmdcmfnpfkfocaa
