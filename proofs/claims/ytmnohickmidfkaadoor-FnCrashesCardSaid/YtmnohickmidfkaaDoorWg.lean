import Derived.Test.YtmnohickmidfkaaDoorWf
/- logs drawn over codes -/
namespace Go.Proofs.YtmnohickmidfkaaDoor
open Go.RowKit

set_option maxRecDepth 100000 in
set_option maxHeartbeats 1000000 in
theorem DrawLog_any (v : Value) (m : Nat) (w : World) (h : Code w v m) (hn : m ≤ 70001) :
    Calls Tryd.prog 37 #[v] w fun e w' => ∃ (d p : List UInt8) (n : Int), e = .returned (lv d p n) ∧ d.length + p.length ≤ 61000 ∧ Chg No w w' := by
  obtain ⟨a, cp, rfl⟩ := h.shape
  have k0 := (Chg.refl No w).alloc (.cells #[.string ⟨#[]⟩, .string ⟨#[]⟩, .int .i64 0] 23)
  have bx := BoxL.new w (.string ⟨#[]⟩) (.string ⟨#[]⟩) (.int .i64 0) 23
  have k1 := k0.alloc (.cells #[.slice a m cp, .int .i64 0, .int .u64 0] 76)
  have hc := Cur.new (h.keep k0) (by omega) 76
  rw [World.size_alloc] at hc
  have HB : Hid (∀ W, Chg (fun q => q = w.heap.size + 1) ((w.alloc (.cells #[.string ⟨#[]⟩, .string ⟨#[]⟩, .int .i64 0] 23)).alloc (.cells #[.slice a m cp, .int .i64 0, .int .u64 0] 76)) W → BoxL W w.heap.size (.string ⟨#[]⟩) (.string ⟨#[]⟩) (.int .i64 0)) := Lib.hid (fun W hW => (bx.keep ((Chg.refl No _).alloc _)).step hW (by omega))
  have q1 := Lib.hid (anyLog_any _ _ _ _ hc (by rw [World.size_alloc, World.size_alloc]; omega) (by omega))
  clear h hc bx
  unfold lv at q1 ⊢
  go_enter Tryd.func37, Tryd.ntmps37
  go_wp2_with (go_at_call 57; refine (q1.out).mono ?_; rintro e w1 ⟨d, p, n, rfl, hl, _, hk1⟩; obtain ⟨c0, c1, c2, fr⟩ := HB.out w1 hk1)
  obtain ⟨z0, z1, z2, _⟩ := (HB.out w1 hk1).put (.string ⟨d.toArray⟩) (.string ⟨p.toArray⟩) (.int .i64 n)
  refine bodyPost_ret (v := .agg #[.string ⟨d.toArray⟩, .string ⟨p.toArray⟩, .int .i64 n]) (by simp [results, Tryd.results37, go_sem, z0, z1, z2]) rfl ?_
  exact ⟨d, p, n, rfl, hl, (k1.step hk1 (fun q hq hl => by omega)).put3 (fun h => absurd h (by omega)) _ _ _⟩

set_option maxRecDepth 100000 in
set_option maxHeartbeats 4000000 in
theorem DrawApp_any (v : Value) (m : Nat) (w : World) (h : Code w v m) (hn : m ≤ 70001) :
    Calls Tryd.prog 38 #[v] w fun e w' => ∃ (d p : List UInt8) (n : Int) (c r : List UInt8), e = .returned (.tuple #[lv d p n, rv c r]) ∧ d.length + p.length ≤ 61000 ∧ c.length ≤ 64 ∧ r.length ≤ 64 ∧ Chg No w w' := by
  obtain ⟨a, cp, rfl⟩ := h.shape
  obtain ⟨A0, hA0⟩ : ∃ A0, A0 = w.alloc (.cells #[.string ⟨#[]⟩, .string ⟨#[]⟩, .int .i64 0] 23) := ⟨_, rfl⟩
  have hz0 : A0.heap.size = w.heap.size + 1 := by rw [hA0, World.size_alloc]
  obtain ⟨A1, hA1⟩ : ∃ A1, A1 = A0.alloc (.cells #[.string ⟨#[]⟩, .string ⟨#[]⟩] 43) := ⟨_, rfl⟩
  have hz1 : A1.heap.size = w.heap.size + 1 + 1 := by rw [hA1, World.size_alloc, hz0]
  obtain ⟨A2, hA2⟩ : ∃ A2, A2 = A1.alloc (.cells #[.slice a m cp, .int .i64 0, .int .u64 0] 76) := ⟨_, rfl⟩
  have hz2 : A2.heap.size = w.heap.size + 1 + 1 + 1 := by rw [hA2, World.size_alloc, hz1]
  have k1 : Chg No w A1 := by rw [hA1, hA0]; exact ((Chg.refl No w).alloc _).alloc _
  have k0 : Chg No w A2 := by rw [hA2]; exact k1.alloc _
  have bx0 : BoxL A2 w.heap.size (.string ⟨#[]⟩) (.string ⟨#[]⟩) (.int .i64 0) := by
    rw [hA2, hA1, hA0]; exact (BoxL.new w _ _ _ _).keep (((Chg.refl No _).alloc _).alloc _)
  have bx1 : Box2 A2 (w.heap.size + 1) (.string ⟨#[]⟩) (.string ⟨#[]⟩) := by
    rw [hA2, hA1, ← hz0]; exact (Box2.new A0 _ _ _).keep ((Chg.refl No _).alloc _)
  have hc : Cur A2 (w.heap.size + 1 + 1) (w.heap.size + 1 + 1 + 1) 0 := by
    rw [hA2, ← hz1]; exact Cur.new (h.keep k1) (by omega) _
  have q1 := Lib.hid (anyLog_any _ _ _ _ hc (by omega) (by omega))
  have HA2 : Hid (A2 = ((w.alloc (.cells #[.string ⟨#[]⟩, .string ⟨#[]⟩, .int .i64 0] 23)).alloc (.cells #[.string ⟨#[]⟩, .string ⟨#[]⟩] 43)).alloc (.cells #[.slice a m cp, .int .i64 0, .int .u64 0] 76)) := Lib.hid (by rw [hA2, hA1, hA0])
  rw [HA2.out] at q1 bx0 bx1 k0 hz2
  have HB0 := Lib.hid bx0
  have HB1 := Lib.hid bx1
  have HZ := Lib.hid hz2
  unfold lv rv
  unfold lv at q1
  clear HA2 hA2 hA1 hA0 hz0 hz1 hz2 hc h bx0 bx1 k1
  go_enter Tryd.func38, Tryd.ntmps38
  go_upto_region 5 with (first
    | (go_at_call 57; refine (q1.out).mono ?_; rintro e w1 ⟨d, p, n, rfl, hlen, hc1, hk1⟩; have hs1 := hk1.size; have hz := HZ.out; have kL := (Chg.refl No w1).alloc (.cells #[.string ⟨d.toArray⟩, .string ⟨p.toArray⟩, .int .i64 n] 23); have hbL := BoxL.new w1 (.string ⟨d.toArray⟩) (.string ⟨p.toArray⟩) (.int .i64 n) 23; have HBL := Lib.hid hbL; clear hbL; have kk1 := (k0.step hk1 (fun q hq hl => by omega)).trans kL; have hr0 := (HB0.out.step hk1 (by omega)).keep kL; have hr1 := (HB1.out.step hk1 (by omega)).keep kL)
    | (go_at_call 58; refine (one_any _ _ (0 + 120) 40 _ (hc1.keep kL) (by omega) (by omega)).mono ?_; rintro e w2 ⟨x, rfl, hc2, hk2⟩; have hbx := HBL.out.step hk2 (by omega); have kk2 := kk1.step hk2 (fun q hq hl => by omega); have hr0 := hr0.step hk2 (by omega); have hr1 := hr1.step hk2 (by omega); obtain ⟨c0, c1, c2, fr⟩ := id hbx))
  · have hwl : w.heap.size + 1 + 1 + 1 ≤ w1.heap.size := by omega
    have kst := Chg.put3 (S := fun q => q = w1.heap.size) (Chg.refl _ w2) (b := w1.heap.size) (fun _ => rfl) (.string ⟨#[]⟩) (.string ⟨#[]⟩) (.int .i64 0)
    have hbx := hbx.put (.string ⟨#[]⟩) (.string ⟨#[]⟩) (.int .i64 0)
    have hr0 := hr0.step kst (by omega)
    have hr1 := hr1.step kst (by omega)
    have hc3 := hc2.step kst (fun q hq => by omega)
    have kk3 := kk2.step kst (fun q hq hl => by omega)
    clear c0 c1 c2 fr
    generalize ((w2.setCell ⟨w1.heap.size, 0, none⟩ (.string ⟨#[]⟩)).setCell ⟨w1.heap.size, 1, none⟩ (.string ⟨#[]⟩)).setCell ⟨w1.heap.size, 2, none⟩ (.int .i64 0) = W3 at kst hbx hr0 hr1 hc3 kk3 ⊢
    generalize w1.heap.size = bL at hbx hwl kst ⊢
    go_wp2_with (go_at_call 59; refine (pick_any _ _ (0 + 120 + 2) 2 _ hc3 (by omega) (by omega)).mono ?_; rintro e w4 ⟨y, rfl, hy0, hy1, _, hc4, hk4⟩; have hbx := hbx.step hk4 (by omega); have hr0 := hr0.step hk4 (by omega); have hr1 := hr1.step hk4 (by omega); have kk4 := kk3.step hk4 (fun q hq hl => by omega); have hy2 := hy1 (by omega); have hwy : IntKind.i64.wrap (59 + y) = 59 + y := IntWalk.i64_in _ (by omega))
    go_loopw [6] (fun a wr => ∃ (i : Nat) (d p : List UInt8) (n : Int), a = .int .i64 i ∧ i ≤ 61 ∧ BoxL wr bL (.string ⟨d.toArray⟩) (.string ⟨p.toArray⟩) (.int .i64 n) ∧ d.length + p.length ≤ 30400 ∧ Cur wr (w.heap.size + 1 + 1) (w.heap.size + 1 + 1 + 1) 1000 ∧ Chg No w wr ∧ BoxL wr w.heap.size (.string ⟨#[]⟩) (.string ⟨#[]⟩) (.int .i64 0) ∧ Box2 wr (w.heap.size + 1) (.string ⟨#[]⟩) (.string ⟨#[]⟩)) (fun a _ => (intOf a).toNat)
    case atStart => exact ⟨(59 + y).toNat, [], [], 0, by congr 1; omega, by omega, hbx, by simp, hc4.more (by omega), kk4, hr0, hr1⟩
    case round =>
      obtain ⟨i, d, p, n, rfl, hi, hbx, hlen, hcur, kkA, hr0, hr1⟩ := hrel
      obtain ⟨c0, c1, c2, fr⟩ := id hbx
      by_cases hi0 : 0 < i
      · have hip : (0 : Int) < (i : Int) := by omega
        have hw1 : IntKind.i64.wrap ((i : Int) - 1) = (i : Int) - 1 := IntWalk.i64_in _ (by omega)
        have q3 := Lib.hid (fun W => specAppend_any d p n [120] [] W (by omega) (by omega) (by simp) (by simp))
        have hlen2 := app_len d p n [120] [] hlen (by simp) (by simp)
        obtain ⟨P, hP⟩ : ∃ P, appP d p n [120] [] = P := ⟨_, rfl⟩
        obtain ⟨N, hN⟩ : ∃ N, appN d p n [120] [] = N := ⟨_, rfl⟩
        obtain ⟨ss, hss⟩ : ∃ s, appS d p n [120] [] = s := ⟨_, rfl⟩
        rw [hP, hN, hss] at q3
        rw [hP] at hlen2
        unfold lv rv at q3
        clear hP hN hss
        go_wp2_with (go_at_call 23; refine (q3.out _).mono ?_; rintro e w5 ⟨rfl, hk5⟩; have hbx5 := hbx.keep hk5; obtain ⟨c0, c1, c2, fr⟩ := id hbx5)
        have kst5 := Chg.put3 (S := fun q => q = bL) (Chg.refl _ w5) (b := bL) (fun _ => rfl) (.string ⟨d.toArray⟩) (.string ⟨P.toArray⟩) (.int .i64 N)
        refine ⟨⟨i - 1, d, P, N, by congr 1; omega, by omega, hbx5.put _ _ _, hlen2, (hcur.keep hk5).step kst5 (fun q hq => by omega), (kkA.trans hk5).step kst5 (fun q hq hl => by omega), (hr0.keep hk5).step kst5 (by omega), (hr1.keep hk5).step kst5 (by omega)⟩, ?_⟩
        simp [intOf]; omega
      · have hi00 : i = 0 := by omega
        subst hi00
        have hlen : d.length + p.length ≤ 61000 := by omega
        go_wp2_with fail
        refine wp_region_K (S := fun W => BoxL W bL (.string ⟨d.toArray⟩) (.string ⟨p.toArray⟩) (.int .i64 n)) (k := 4) (by kernel_rfl) ?_
        have hS := hbx.keep (Chg.refl No wr).drew
        have hcur1 := hcur.keep (Chg.refl No wr).drew
        have kk1 := kkA.keep (Chg.refl No wr).drew
        have hr0 := hr0.keep (Chg.refl No wr).drew
        have hr1 := hr1.keep (Chg.refl No wr).drew
        generalize wr.drew = W1 at hS hcur1 kk1 hr0 hr1 ⊢
        clear c0 c1 c2 fr
        refine wpAnyK_take 0 (.agg #[.string ⟨d.toArray⟩, .string ⟨p.toArray⟩, .int .i64 n]) rfl (by kernel_rfl) (fun _ _ _ h => h) hS rfl (by rintro w ⟨c0, c1, c2, fr⟩; go_simp) ?_
        simp only [List.getElem_toArray, List.getElem_cons_zero, Act.put, List.setIfInBounds_toArray, List.set_cons_zero, List.set_cons_succ]
        refine wpAnyK_take 1 (.pointer (some ⟨w.heap.size + 1 + 1, 0, none⟩)) rfl (by kernel_rfl) (fun _ _ _ h => h) hS rfl (by rintro w ⟨c0, c1, c2, fr⟩; go_simp) ?_
        simp only [List.getElem_toArray, List.getElem_cons_succ, List.getElem_cons_zero, Act.put, List.setIfInBounds_toArray, List.set_cons_zero, List.set_cons_succ]
        have hs1 := kk1.size
        have hltb := hS.lt
        refine wpAnyK_1 2 (by kernel_rfl) (wpOpK' rfl rfl ?_)
        intro K0 hK0
        refine ocallE (f := 55) (args := #[.pointer (some ⟨w.heap.size + 1 + 1, 0, none⟩)]) (φ := fun v W' => ∃ c r : List UInt8, v = .agg #[.string ⟨c.toArray⟩, .string ⟨r.toArray⟩] ∧ c.length ≤ 64 ∧ r.length ≤ 64 ∧ Chg (fun q => q = w.heap.size + 1 + 1) W1 W') (by go_simp) ((logRecord_any _ _ 1000 W1 hcur1 (by have := hr0.lt; omega) (by omega)).mono (fun e W' ⟨c, r, h1, h2, h3, h4, h5⟩ => ⟨_, h1, c, r, rfl, h2, h3, h5⟩)) (fun v2 W2 h2 => ?_)
        obtain ⟨c, r, rfl, hcl, hrl, k2⟩ := h2
        have hS := hS.step k2 (by omega)
        have hr0 := hr0.step k2 (by omega)
        have hr1 := hr1.step k2 (by omega)
        have kk2 := kk1.step k2 (fun q hq hl => by omega)
        refine hK0.out _ _ hS ?_
        clear hK0 K0
        simp only [List.getElem_toArray, List.getElem_cons_succ, List.getElem_cons_zero, Act.put, List.setIfInBounds_toArray, List.set_cons_zero, List.set_cons_succ]
        obtain ⟨e0, e1, e2, fe⟩ := id hr0
        have fe0 := fe 0
        have fe1 := fe 1
        have fe2 := fe 2
        clear fe
        have hltL := hS.lt
        refine wpAnyK_1 3 (by kernel_rfl) (wpOpK' rfl rfl ?_)
        intro K0 hK0
        have kst := Chg.put3 (S := fun q => q = w.heap.size) (Chg.refl _ W2) (b := w.heap.size) (fun _ => rfl) (.string ⟨d.toArray⟩) (.string ⟨p.toArray⟩) (.int .i64 n)
        unfold Oper.wp execOp
        go_simp
        refine hK0.out _ _ (hS.step kst (by omega)) ?_
        clear hK0 K0 e0 e1 e2 fe0 fe1 fe2
        simp only [List.setIfInBounds_toArray]
        have hb5 := hr0.put (.string ⟨d.toArray⟩) (.string ⟨p.toArray⟩) (.int .i64 n)
        have hb6 := hr1.step kst (by omega)
        generalize ((W2.setCell ⟨w.heap.size, 0, none⟩ (.string ⟨d.toArray⟩)).setCell ⟨w.heap.size, 1, none⟩ (.string ⟨p.toArray⟩)).setCell ⟨w.heap.size, 2, none⟩ (.int .i64 n) = W3 at kst hb5 hb6 ⊢
        refine wpAnyK_tail 4 rfl (by kernel_rfl) ?_
        simp only [List.drop_succ_cons, List.drop_zero]
        obtain ⟨g0, g1, fg⟩ := id hb6
        go_wp2_with fail
        clear g0 g1 fg
        have kst2 := Chg.put2 (S := fun q => q = w.heap.size + 1) (Chg.refl _ W3) (b := w.heap.size + 1) (fun _ => rfl) (.string ⟨c.toArray⟩) (.string ⟨r.toArray⟩)
        obtain ⟨z0, z1, z2, _⟩ := hb5.step kst2 (by omega)
        obtain ⟨y0, y1, _⟩ := hb6.put2 (.string ⟨c.toArray⟩) (.string ⟨r.toArray⟩)
        refine bodyPost_ret (v := .tuple #[.agg #[.string ⟨d.toArray⟩, .string ⟨p.toArray⟩, .int .i64 n], .agg #[.string ⟨c.toArray⟩, .string ⟨r.toArray⟩]]) (by simp [results, Tryd.results38, go_sem, z0, z1, z2, y0, y1]) rfl ?_
        exact ⟨d, p, n, c, r, rfl, hlen, hcl, hrl, (kk2.step kst (fun q hq hl => by omega)).step kst2 (fun q hq hl => by omega)⟩
  · have hwl : w.heap.size + 1 + 1 + 1 ≤ w1.heap.size := by omega
    have hcur := hc2.more (K' := 1000) (by omega)
    have kkA := kk2
    generalize w1.heap.size = bL at hbx hwl c0 c1 c2 fr ⊢
    refine wp_region_K (S := fun W => BoxL W bL (.string ⟨d.toArray⟩) (.string ⟨p.toArray⟩) (.int .i64 n)) (k := 4) (by kernel_rfl) ?_
    have hS := hbx.keep (Chg.refl No w2).drew
    have hcur1 := hcur.keep (Chg.refl No w2).drew
    have kk1 := kkA.keep (Chg.refl No w2).drew
    have hr0 := hr0.keep (Chg.refl No w2).drew
    have hr1 := hr1.keep (Chg.refl No w2).drew
    generalize w2.drew = W1 at hS hcur1 kk1 hr0 hr1 ⊢
    clear c0 c1 c2 fr
    refine wpAnyK_take 0 (.agg #[.string ⟨d.toArray⟩, .string ⟨p.toArray⟩, .int .i64 n]) rfl (by kernel_rfl) (fun _ _ _ h => h) hS rfl (by rintro w ⟨c0, c1, c2, fr⟩; go_simp) ?_
    simp only [List.getElem_toArray, List.getElem_cons_zero, Act.put, List.setIfInBounds_toArray, List.set_cons_zero, List.set_cons_succ]
    refine wpAnyK_take 1 (.pointer (some ⟨w.heap.size + 1 + 1, 0, none⟩)) rfl (by kernel_rfl) (fun _ _ _ h => h) hS rfl (by rintro w ⟨c0, c1, c2, fr⟩; go_simp) ?_
    simp only [List.getElem_toArray, List.getElem_cons_succ, List.getElem_cons_zero, Act.put, List.setIfInBounds_toArray, List.set_cons_zero, List.set_cons_succ]
    have hs1 := kk1.size
    have hltb := hS.lt
    refine wpAnyK_1 2 (by kernel_rfl) (wpOpK' rfl rfl ?_)
    intro K0 hK0
    refine ocallE (f := 55) (args := #[.pointer (some ⟨w.heap.size + 1 + 1, 0, none⟩)]) (φ := fun v W' => ∃ c r : List UInt8, v = .agg #[.string ⟨c.toArray⟩, .string ⟨r.toArray⟩] ∧ c.length ≤ 64 ∧ r.length ≤ 64 ∧ Chg (fun q => q = w.heap.size + 1 + 1) W1 W') (by go_simp) ((logRecord_any _ _ 1000 W1 hcur1 (by have := hr0.lt; omega) (by omega)).mono (fun e W' ⟨c, r, h1, h2, h3, h4, h5⟩ => ⟨_, h1, c, r, rfl, h2, h3, h5⟩)) (fun v2 W2 h2 => ?_)
    obtain ⟨c, r, rfl, hcl, hrl, k2⟩ := h2
    have hS := hS.step k2 (by omega)
    have hr0 := hr0.step k2 (by omega)
    have hr1 := hr1.step k2 (by omega)
    have kk2 := kk1.step k2 (fun q hq hl => by omega)
    refine hK0.out _ _ hS ?_
    clear hK0 K0
    simp only [List.getElem_toArray, List.getElem_cons_succ, List.getElem_cons_zero, Act.put, List.setIfInBounds_toArray, List.set_cons_zero, List.set_cons_succ]
    obtain ⟨e0, e1, e2, fe⟩ := id hr0
    have fe0 := fe 0
    have fe1 := fe 1
    have fe2 := fe 2
    clear fe
    have hltL := hS.lt
    refine wpAnyK_1 3 (by kernel_rfl) (wpOpK' rfl rfl ?_)
    intro K0 hK0
    have kst := Chg.put3 (S := fun q => q = w.heap.size) (Chg.refl _ W2) (b := w.heap.size) (fun _ => rfl) (.string ⟨d.toArray⟩) (.string ⟨p.toArray⟩) (.int .i64 n)
    unfold Oper.wp execOp
    go_simp
    refine hK0.out _ _ (hS.step kst (by omega)) ?_
    clear hK0 K0 e0 e1 e2 fe0 fe1 fe2
    simp only [List.setIfInBounds_toArray]
    have hb5 := hr0.put (.string ⟨d.toArray⟩) (.string ⟨p.toArray⟩) (.int .i64 n)
    have hb6 := hr1.step kst (by omega)
    generalize ((W2.setCell ⟨w.heap.size, 0, none⟩ (.string ⟨d.toArray⟩)).setCell ⟨w.heap.size, 1, none⟩ (.string ⟨p.toArray⟩)).setCell ⟨w.heap.size, 2, none⟩ (.int .i64 n) = W3 at kst hb5 hb6 ⊢
    refine wpAnyK_tail 4 rfl (by kernel_rfl) ?_
    simp only [List.drop_succ_cons, List.drop_zero]
    obtain ⟨g0, g1, fg⟩ := id hb6
    go_wp2_with fail
    clear g0 g1 fg
    have kst2 := Chg.put2 (S := fun q => q = w.heap.size + 1) (Chg.refl _ W3) (b := w.heap.size + 1) (fun _ => rfl) (.string ⟨c.toArray⟩) (.string ⟨r.toArray⟩)
    obtain ⟨z0, z1, z2, _⟩ := hb5.step kst2 (by omega)
    obtain ⟨y0, y1, _⟩ := hb6.put2 (.string ⟨c.toArray⟩) (.string ⟨r.toArray⟩)
    refine bodyPost_ret (v := .tuple #[.agg #[.string ⟨d.toArray⟩, .string ⟨p.toArray⟩, .int .i64 n], .agg #[.string ⟨c.toArray⟩, .string ⟨r.toArray⟩]]) (by simp [results, Tryd.results38, go_sem, z0, z1, z2, y0, y1]) rfl ?_
    exact ⟨d, p, n, c, r, rfl, hlen, hcl, hrl, (kk2.step kst (fun q hq hl => by omega)).step kst2 (fun q hq hl => by omega)⟩
end Go.Proofs.YtmnohickmidfkaaDoor
