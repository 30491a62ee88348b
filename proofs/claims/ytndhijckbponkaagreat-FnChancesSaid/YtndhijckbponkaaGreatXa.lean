import Derived.Test.YtndhijckbponkaaGreatRx
/- means: the program's walk -/
namespace Go.Proofs.YtndhijckbponkaaGreat
open Go.RowKit

set_option maxRecDepth 100000 in
set_option maxHeartbeats 2000000 in
theorem mean2_any (A : Nat → Prop) (cv : Value) (qs : List (List Int)) (ws : List Int) (w : World) (hc : RCh A w cv qs ws) (K9 : Nat) (hch : ChP K9 12 6 qs ws) (f : FuncId) (c0 c1 : Value) (g : List Int → Int)
    (hcf : ∀ x (w : World), (callFunc f #[x, c0, c1]).run Tryz.prog w = .ok (.enter f #[x, c0, c1]) w) (hg : ∀ i, i < qs.length → 0 ≤ g (qs.getD i []) ∧ g (qs.getD i []) ≤ 813)
    (hp : ∀ (i : Nat) (xv : Value) (W : World), i < qs.length → Chg No w W → RI A W xv (qs.getD i []) → Calls Tryz.prog f #[xv, c0, c1] W (Ret fun r w' => r = .int .i64 (g (qs.getD i [])) ∧ Chg No W w')) :
    Calls Tryz.prog 38 #[cv, .func (.func f) #[] #[c0, c1]] w (Ret2 fun v0 v1 w' => v0 = .agg #[.int .i64 (mkFr (meV g qs ws qs.length) (sumW ws)).num, .int .i64 (mkFr (meV g qs ws qs.length) (sumW ws)).den] ∧ v1 = .bool (mkFr (meV g qs ws qs.length) (sumW ws)).ok ∧ Chg No w w') := by
  have hcv := hc
  obtain ⟨wv, qv, rfl, hw, hq⟩ := hc
  obtain ⟨qa, qc, rfl⟩ := hq.shape
  obtain ⟨wa, wc, rfl, _⟩ := id hw
  have hql12 : qs.length ≤ 12 := hch.1.2
  have hwl : ws.length = qs.length := hch.2.1
  rw [hwl] at hw hcv ⊢
  have HWL := Lib.hid hwl
  have HP := Lib.hid hp
  have HC := Lib.hid hch
  have HG := Lib.hid hg
  have HF := Lib.hid hcf
  clear hch hwl hp hg hcf
  go_enter Tryz.func38, Tryz.ntmps38
  go_wp2_with fail
  have b0 := (BoxN.new w #[.slice wa qs.length wc, .slice qa qs.length qc] 29).keep ((Chg.refl No _).alloc (.cells #[.int .i64 0, .int .i64 0] 38))
  have b2 := BoxN.new (w.alloc (.cells #[.slice wa qs.length wc, .slice qa qs.length qc] 29)) #[.int .i64 0, .int .i64 0] 38
  have kk := ((Chg.refl No w).alloc (.cells #[.slice wa qs.length wc, .slice qa qs.length qc] 29)).alloc (.cells #[.int .i64 0, .int .i64 0] 38)
  obtain ⟨R0, hR0⟩ : ∃ R0, w.heap.size = R0 := ⟨_, rfl⟩
  obtain ⟨S2, hS2⟩ : ∃ S2, R0 + 1 = S2 := ⟨_, rfl⟩
  rw [World.size_alloc, hR0, hS2] at b2
  rw [hR0] at b0 ⊢
  rw [hS2]
  have HSS := Lib.hid (And.intro hS2 hR0)
  clear hS2 hR0
  generalize World.alloc (w.alloc _) _ = w1 at b0 b2 kk ⊢
  go_loopw [6, 7, 8, 12] (fun o y z t wr => ∃ i : Nat, i ≤ qs.length ∧ t = .int .i64 (i : Int) ∧ o = .int .i64 (meV g qs ws i) ∧ Chg No w1 wr) (fun _ _ _ t _ => qs.length - (intOf t).toNat)
  case atStart => exact ⟨0, Nat.zero_le _, rfl, rfl, Chg.refl _ _⟩
  case round =>
    obtain ⟨i, hi, rfl, rfl, kr⟩ := hrel
    have hi0 : (0 : Int) ≤ (i : Int) := Int.natCast_nonneg _
    have hmi := meV_in HC.out HG.out i hi
    obtain ⟨u, hu⟩ : ∃ u, meV g qs ws i = u := ⟨_, rfl⟩
    rw [hu] at hmi ⊢
    have kw := kk.keep kr
    have bb0 := b0.keep kr
    have bb2 := b2.keep kr
    by_cases hlt : i < qs.length
    · have hi1 : (i : Int) < (qs.length : Int) := by omega
      have hwi : IntKind.i64.wrap ((i : Int) + 1) = (i : Int) + 1 := IntWalk.i64_in _ (by omega)
      have HNX := Lib.hid (show meV g qs ws (i + 1) = u + ws.getD i 0 * g (qs.getD i []) by rw [← hu]; rfl)
      have hx := ch_get HC.out i (by have := HWL.out; omega)
      have hy := HG.out i hlt
      obtain ⟨x, hxx⟩ : ∃ x, ws.getD i 0 = x := ⟨_, rfl⟩
      obtain ⟨y, hyy⟩ : ∃ y, g (qs.getD i []) = y := ⟨_, rfl⟩
      rw [hxx, hyy] at HNX
      rw [hxx] at hx
      rw [hyy] at hy
      have hm0 : 0 ≤ x * y := Int.mul_nonneg (by omega) hy.1
      have hm1 : x * y ≤ 9 * 813 := Int.mul_le_mul hx.2 hy.2 hy.1 (by omega)
      have HW1 : Hid (IntKind.i64.wrap (x * y) = x * y) := Lib.hid (IntWalk.i64_in _ (by omega))
      have HW2 : Hid (IntKind.i64.wrap (u + x * y) = u + x * y) := Lib.hid (IntWalk.i64_in _ (by omega))
      obtain ⟨wb, wf, rfl, hwb, hcw⟩ := hw.cellN (j := i) (by have := HWL.out; omega)
      rw [hxx] at hcw
      obtain ⟨qb, qf, ra, rc, rfl, hqb, hcq, hrr⟩ := hq.row hlt
      obtain ⟨LQ, hLQ⟩ : ∃ L, (qs.getD i []).length = L := ⟨_, rfl⟩
      rw [hLQ] at hcq
      have g3 := (kw.cellD qb (qf + i) hqb (fun e => e)).trans hcq
      have SF : ∀ W, Chg No wr W → W.cell? ⟨R0, 0, none⟩ = some (.slice (some ⟨wb, wf, none⟩) qs.length wc) ∧ W.cell? ⟨wb, wf + i, none⟩ = some (.int .i64 x) :=
        fun W k => ⟨(bb0.keep k).c 0 _ rfl, ((kw.keep k).cellD wb (wf + i) hwb (fun e => e)).trans hcw⟩
      have HSF := Lib.hid SF
      have HOC : Hid (∀ W, Chg No wr W → Calls Tryz.prog f #[.slice ra LQ rc, c0, c1] W (Ret fun r w' => r = .int .i64 y ∧ Chg No W w')) := Lib.hid (fun W k => by
        have := HP.out i _ W hlt (kw.keep k) (hrr.keep (kw.keep k))
        rwa [hyy, hLQ] at this)
      clear SF hm0 hm1 hx hy hxx hyy hLQ hcw hcq hrr hmi hu
      go_wp2_with fail
      refine wp_region_K (S := fun W => W.cell? ⟨R0, 0, none⟩ = some (.slice (some ⟨wb, wf, none⟩) qs.length wc) ∧ W.cell? ⟨wb, wf + i, none⟩ = some (.int .i64 x)) (k := 11) (by kernel_rfl) ?_
      have kq : Chg No wr (World.drew wr) := drewN0 _
      generalize wr.drew = W2 at kq ⊢
      have hS := HSF.out W2 kq
      refine wpAnyK_take0 0 (.int .i64 u) rfl (by kernel_rfl) (fun _ _ _ h => h) hS rfl (by intro w; go_simp) ?_
      simp only [List.getElem_toArray, List.getElem_cons_zero, Act.put, List.setIfInBounds_toArray, List.set_cons_zero, List.set_cons_succ]
      refine wpAnyK_take0 1 (.pointer (some ⟨R0, 0, none⟩)) rfl (by kernel_rfl) (fun _ _ _ h => h) hS rfl (by intro w; go_simp) ?_
      simp only [List.getElem_toArray, List.getElem_cons_succ, List.getElem_cons_zero, Act.put, List.setIfInBounds_toArray, List.set_cons_zero, List.set_cons_succ]
      refine wpAnyK_take 2 (.slice (some ⟨wb, wf, none⟩) qs.length wc) rfl (by kernel_rfl) (fun _ _ _ h => h) hS rfl (by intro w hSw; go_simp) ?_
      simp only [List.getElem_toArray, List.getElem_cons_succ, List.getElem_cons_zero, Act.put, List.setIfInBounds_toArray, List.set_cons_zero, List.set_cons_succ]
      refine wpAnyK_take0 3 (.int .i64 (i : Int)) rfl (by kernel_rfl) (fun _ _ _ h => h) hS rfl (by intro w; go_simp) ?_
      simp only [List.getElem_toArray, List.getElem_cons_succ, List.getElem_cons_zero, Act.put, List.setIfInBounds_toArray, List.set_cons_zero, List.set_cons_succ]
      refine wpAnyK_take0 4 (.pointer (some ⟨wb, wf + i, none⟩)) rfl (by kernel_rfl) (fun _ _ _ h => h) hS rfl (by intro w; go_simp) ?_
      simp only [List.getElem_toArray, List.getElem_cons_succ, List.getElem_cons_zero, Act.put, List.setIfInBounds_toArray, List.set_cons_zero, List.set_cons_succ]
      refine wpAnyK_take 5 (.int .i64 x) rfl (by kernel_rfl) (fun _ _ _ h => h) hS rfl (by intro w hSw; go_simp) ?_
      simp only [List.getElem_toArray, List.getElem_cons_succ, List.getElem_cons_zero, Act.put, List.setIfInBounds_toArray, List.set_cons_zero, List.set_cons_succ]
      refine wpAnyK_take0 6 (.func (.func f) #[] #[c0, c1]) rfl (by kernel_rfl) (fun _ _ _ h => h) hS rfl (by intro w; go_simp) ?_
      simp only [List.getElem_toArray, List.getElem_cons_succ, List.getElem_cons_zero, Act.put, List.setIfInBounds_toArray, List.set_cons_zero, List.set_cons_succ]
      refine wpAnyK_take0 7 (.slice ra LQ rc) rfl (by kernel_rfl) (fun _ _ _ h => h) hS rfl (by intro w; go_simp) ?_
      simp only [List.getElem_toArray, List.getElem_cons_succ, List.getElem_cons_zero, Act.put, List.setIfInBounds_toArray, List.set_cons_zero, List.set_cons_succ]
      clear hS
      refine wpAnyK_1 8 (by kernel_rfl) (wpOpK' rfl rfl ?_)
      intro K hK
      refine ocall (f := f) (args := #[.slice ra LQ rc, c0, c1]) (by go_simp; exact HF.out _ _) (HOC.out W2 kq) (fun v3 w3 h3 => ?_)
      obtain ⟨rfl, k3⟩ := h3
      replace kq := kq.keep k3
      refine hK.out _ _ (HSF.out w3 kq) ?_
      clear hK K k3
      simp only [List.getElem_toArray, List.getElem_cons_succ, List.getElem_cons_zero, Act.put, List.setIfInBounds_toArray, List.set_cons_zero, List.set_cons_succ]
      have hS := HSF.out w3 kq
      have hw1 := HW1.out
      have hw2 := HW2.out
      refine wpAnyK_take0 9 (.int .i64 (x * y)) rfl (by kernel_rfl) (fun _ _ _ h => h) hS rfl (by intro w; go_simp) ?_
      simp only [List.getElem_toArray, List.getElem_cons_succ, List.getElem_cons_zero, Act.put, List.setIfInBounds_toArray, List.set_cons_zero, List.set_cons_succ]
      refine wpAnyK_take0 10 (.int .i64 (u + x * y)) rfl (by kernel_rfl) (fun _ _ _ h => h) hS rfl (by intro w; go_simp) ?_
      simp only [List.getElem_toArray, List.getElem_cons_succ, List.getElem_cons_zero, Act.put, List.setIfInBounds_toArray, List.set_cons_zero, List.set_cons_succ]
      clear hS hw1 hw2
      refine wpAnyK_tail 11 rfl (by kernel_rfl) ?_
      simp only [List.drop_succ_cons, List.drop_zero]
      go_wp2_with fail
      go_round
      case rel => exact ⟨i + 1, hlt, by go_num, by rw [HNX.out], kr.keep kq⟩
      case measure => simp [intOf]; omega
    · have hie : i = qs.length := by omega
      subst hie
      have hb := ch_bound HC.out
      have hsu := ch_sum HC.out
      obtain ⟨t, ht⟩ : ∃ t, sumW ws = t := ⟨_, rfl⟩
      rw [ht] at hsu
      have HSUM : Hid (∀ W, Chg No wr W → Calls Tryz.prog 51 #[.slice wa qs.length wc] W (Ret fun r w' => r = .int .i64 t ∧ Chg No W w')) := Lib.hid (fun W k => by
        have := (total_any A _ ws W (hw.keep (kw.keep k)) hb).mono (fun e w' h => (⟨_, h.1, rfl, h.2 ▸ Chg.refl No W⟩ : Ret (fun r w' => r = .int .i64 (sumW ws) ∧ Chg No W w') e w'))
        rwa [ht] at this)
      obtain ⟨fr, hfr⟩ : ∃ fr, mkFr u t = fr := ⟨_, rfl⟩
      have HMK : Hid (∀ W, Calls Tryz.prog 49 #[.int .i64 u, .int .i64 t] W (Ret fun v w' => v = .tuple #[.agg #[.int .i64 fr.num, .int .i64 fr.den], .bool fr.ok] ∧ Chg No W w')) := Lib.hid (fun W => by
        have := ret2_eq (makeFrac_any u t W (by omega) (by omega) (by omega) (by omega))
        rwa [hfr] at this)
      have HV : Hid (mkFr (meV g qs ws qs.length) (sumW ws) = fr) := Lib.hid (by rw [hu, ht]; exact hfr)
      have g0 := bb0.c 0 _ rfl
      have g1 := bb0.c 1 _ rfl
      have HB := Lib.hid (And.intro bb0 (And.intro bb2 (And.intro kw HSS.out)))
      clear hb hsu ht hfr hu hmi bb0 bb2 kw
      go_wp2_with fail
      refine (HSUM.out _ (Chg.refl No wr)).mono ?_
      rintro e w3 ⟨_, rfl, rfl, k3⟩
      clear HSUM g0 g1
      go_wp2_with fail
      refine (HMK.out w3).mono ?_
      rintro e w4 ⟨_, rfl, rfl, k4⟩
      have kq := k3.keep k4
      have b2' := HB.out.2.1.keep kq
      have kw' := HB.out.2.2.1.keep kq
      have g0 := b2'.c 0 _ rfl
      have g1 := b2'.c 1 _ rfl
      have f0 := b2'.fr 0
      have f1 := b2'.fr 1
      have hsz := b2'.lt
      have b3 := (b2'.set (i := 0) (by simp) (.int .i64 fr.num)).set (i := 1) (by simp) (.int .i64 fr.den)
      have z0 := b3.c 0 _ rfl
      have z1 := b3.c 1 _ rfl
      have kf := (kw'.setCell (p := ⟨S2, 0, none⟩) (fun h => by have := HB.out.2.2.2; simp at h; omega) (.int .i64 fr.num)).setCell (p := ⟨S2, 1, none⟩) (fun h => by have := HB.out.2.2.2; simp at h; omega) (.int .i64 fr.den)
      clear kq b2' kw' k3 k4 b3
      go_wp2_with fail
      exact bodyPost_ret (v := .tuple #[.agg #[.int .i64 fr.num, .int .i64 fr.den], .bool fr.ok]) (by simp [results, Tryz.results38, go_sem, z0, z1]) rfl ⟨_, _, rfl, by rw [HV.out], by rw [HV.out], kf⟩
set_option maxRecDepth 100000 in
set_option maxHeartbeats 2000000 in
theorem mean3_any (A : Nat → Prop) (cv : Value) (qs : List (List Int)) (ws : List Int) (w : World) (hc : RCh A w cv qs ws) (K9 : Nat) (hch : ChP K9 12 6 qs ws) (f : FuncId) (c0 c1 c2 : Value) (g : List Int → Int)
    (hcf : ∀ x (w : World), (callFunc f #[x, c0, c1, c2]).run Tryz.prog w = .ok (.enter f #[x, c0, c1, c2]) w) (hg : ∀ i, i < qs.length → 0 ≤ g (qs.getD i []) ∧ g (qs.getD i []) ≤ 813)
    (hp : ∀ (i : Nat) (xv : Value) (W : World), i < qs.length → Chg No w W → RI A W xv (qs.getD i []) → Calls Tryz.prog f #[xv, c0, c1, c2] W (Ret fun r w' => r = .int .i64 (g (qs.getD i [])) ∧ Chg No W w')) :
    Calls Tryz.prog 38 #[cv, .func (.func f) #[] #[c0, c1, c2]] w (Ret2 fun v0 v1 w' => v0 = .agg #[.int .i64 (mkFr (meV g qs ws qs.length) (sumW ws)).num, .int .i64 (mkFr (meV g qs ws qs.length) (sumW ws)).den] ∧ v1 = .bool (mkFr (meV g qs ws qs.length) (sumW ws)).ok ∧ Chg No w w') := by
  have hcv := hc
  obtain ⟨wv, qv, rfl, hw, hq⟩ := hc
  obtain ⟨qa, qc, rfl⟩ := hq.shape
  obtain ⟨wa, wc, rfl, _⟩ := id hw
  have hql12 : qs.length ≤ 12 := hch.1.2
  have hwl : ws.length = qs.length := hch.2.1
  rw [hwl] at hw hcv ⊢
  have HWL := Lib.hid hwl
  have HP := Lib.hid hp
  have HC := Lib.hid hch
  have HG := Lib.hid hg
  have HF := Lib.hid hcf
  clear hch hwl hp hg hcf
  go_enter Tryz.func38, Tryz.ntmps38
  go_wp2_with fail
  have b0 := (BoxN.new w #[.slice wa qs.length wc, .slice qa qs.length qc] 29).keep ((Chg.refl No _).alloc (.cells #[.int .i64 0, .int .i64 0] 38))
  have b2 := BoxN.new (w.alloc (.cells #[.slice wa qs.length wc, .slice qa qs.length qc] 29)) #[.int .i64 0, .int .i64 0] 38
  have kk := ((Chg.refl No w).alloc (.cells #[.slice wa qs.length wc, .slice qa qs.length qc] 29)).alloc (.cells #[.int .i64 0, .int .i64 0] 38)
  obtain ⟨R0, hR0⟩ : ∃ R0, w.heap.size = R0 := ⟨_, rfl⟩
  obtain ⟨S2, hS2⟩ : ∃ S2, R0 + 1 = S2 := ⟨_, rfl⟩
  rw [World.size_alloc, hR0, hS2] at b2
  rw [hR0] at b0 ⊢
  rw [hS2]
  have HSS := Lib.hid (And.intro hS2 hR0)
  clear hS2 hR0
  generalize World.alloc (w.alloc _) _ = w1 at b0 b2 kk ⊢
  go_loopw [6, 7, 8, 12] (fun o y z t wr => ∃ i : Nat, i ≤ qs.length ∧ t = .int .i64 (i : Int) ∧ o = .int .i64 (meV g qs ws i) ∧ Chg No w1 wr) (fun _ _ _ t _ => qs.length - (intOf t).toNat)
  case atStart => exact ⟨0, Nat.zero_le _, rfl, rfl, Chg.refl _ _⟩
  case round =>
    obtain ⟨i, hi, rfl, rfl, kr⟩ := hrel
    have hi0 : (0 : Int) ≤ (i : Int) := Int.natCast_nonneg _
    have hmi := meV_in HC.out HG.out i hi
    obtain ⟨u, hu⟩ : ∃ u, meV g qs ws i = u := ⟨_, rfl⟩
    rw [hu] at hmi ⊢
    have kw := kk.keep kr
    have bb0 := b0.keep kr
    have bb2 := b2.keep kr
    by_cases hlt : i < qs.length
    · have hi1 : (i : Int) < (qs.length : Int) := by omega
      have hwi : IntKind.i64.wrap ((i : Int) + 1) = (i : Int) + 1 := IntWalk.i64_in _ (by omega)
      have HNX := Lib.hid (show meV g qs ws (i + 1) = u + ws.getD i 0 * g (qs.getD i []) by rw [← hu]; rfl)
      have hx := ch_get HC.out i (by have := HWL.out; omega)
      have hy := HG.out i hlt
      obtain ⟨x, hxx⟩ : ∃ x, ws.getD i 0 = x := ⟨_, rfl⟩
      obtain ⟨y, hyy⟩ : ∃ y, g (qs.getD i []) = y := ⟨_, rfl⟩
      rw [hxx, hyy] at HNX
      rw [hxx] at hx
      rw [hyy] at hy
      have hm0 : 0 ≤ x * y := Int.mul_nonneg (by omega) hy.1
      have hm1 : x * y ≤ 9 * 813 := Int.mul_le_mul hx.2 hy.2 hy.1 (by omega)
      have HW1 : Hid (IntKind.i64.wrap (x * y) = x * y) := Lib.hid (IntWalk.i64_in _ (by omega))
      have HW2 : Hid (IntKind.i64.wrap (u + x * y) = u + x * y) := Lib.hid (IntWalk.i64_in _ (by omega))
      obtain ⟨wb, wf, rfl, hwb, hcw⟩ := hw.cellN (j := i) (by have := HWL.out; omega)
      rw [hxx] at hcw
      obtain ⟨qb, qf, ra, rc, rfl, hqb, hcq, hrr⟩ := hq.row hlt
      obtain ⟨LQ, hLQ⟩ : ∃ L, (qs.getD i []).length = L := ⟨_, rfl⟩
      rw [hLQ] at hcq
      have g3 := (kw.cellD qb (qf + i) hqb (fun e => e)).trans hcq
      have SF : ∀ W, Chg No wr W → W.cell? ⟨R0, 0, none⟩ = some (.slice (some ⟨wb, wf, none⟩) qs.length wc) ∧ W.cell? ⟨wb, wf + i, none⟩ = some (.int .i64 x) :=
        fun W k => ⟨(bb0.keep k).c 0 _ rfl, ((kw.keep k).cellD wb (wf + i) hwb (fun e => e)).trans hcw⟩
      have HSF := Lib.hid SF
      have HOC : Hid (∀ W, Chg No wr W → Calls Tryz.prog f #[.slice ra LQ rc, c0, c1, c2] W (Ret fun r w' => r = .int .i64 y ∧ Chg No W w')) := Lib.hid (fun W k => by
        have := HP.out i _ W hlt (kw.keep k) (hrr.keep (kw.keep k))
        rwa [hyy, hLQ] at this)
      clear SF hm0 hm1 hx hy hxx hyy hLQ hcw hcq hrr hmi hu
      go_wp2_with fail
      refine wp_region_K (S := fun W => W.cell? ⟨R0, 0, none⟩ = some (.slice (some ⟨wb, wf, none⟩) qs.length wc) ∧ W.cell? ⟨wb, wf + i, none⟩ = some (.int .i64 x)) (k := 11) (by kernel_rfl) ?_
      have kq : Chg No wr (World.drew wr) := drewN0 _
      generalize wr.drew = W2 at kq ⊢
      have hS := HSF.out W2 kq
      refine wpAnyK_take0 0 (.int .i64 u) rfl (by kernel_rfl) (fun _ _ _ h => h) hS rfl (by intro w; go_simp) ?_
      simp only [List.getElem_toArray, List.getElem_cons_zero, Act.put, List.setIfInBounds_toArray, List.set_cons_zero, List.set_cons_succ]
      refine wpAnyK_take0 1 (.pointer (some ⟨R0, 0, none⟩)) rfl (by kernel_rfl) (fun _ _ _ h => h) hS rfl (by intro w; go_simp) ?_
      simp only [List.getElem_toArray, List.getElem_cons_succ, List.getElem_cons_zero, Act.put, List.setIfInBounds_toArray, List.set_cons_zero, List.set_cons_succ]
      refine wpAnyK_take 2 (.slice (some ⟨wb, wf, none⟩) qs.length wc) rfl (by kernel_rfl) (fun _ _ _ h => h) hS rfl (by intro w hSw; go_simp) ?_
      simp only [List.getElem_toArray, List.getElem_cons_succ, List.getElem_cons_zero, Act.put, List.setIfInBounds_toArray, List.set_cons_zero, List.set_cons_succ]
      refine wpAnyK_take0 3 (.int .i64 (i : Int)) rfl (by kernel_rfl) (fun _ _ _ h => h) hS rfl (by intro w; go_simp) ?_
      simp only [List.getElem_toArray, List.getElem_cons_succ, List.getElem_cons_zero, Act.put, List.setIfInBounds_toArray, List.set_cons_zero, List.set_cons_succ]
      refine wpAnyK_take0 4 (.pointer (some ⟨wb, wf + i, none⟩)) rfl (by kernel_rfl) (fun _ _ _ h => h) hS rfl (by intro w; go_simp) ?_
      simp only [List.getElem_toArray, List.getElem_cons_succ, List.getElem_cons_zero, Act.put, List.setIfInBounds_toArray, List.set_cons_zero, List.set_cons_succ]
      refine wpAnyK_take 5 (.int .i64 x) rfl (by kernel_rfl) (fun _ _ _ h => h) hS rfl (by intro w hSw; go_simp) ?_
      simp only [List.getElem_toArray, List.getElem_cons_succ, List.getElem_cons_zero, Act.put, List.setIfInBounds_toArray, List.set_cons_zero, List.set_cons_succ]
      refine wpAnyK_take0 6 (.func (.func f) #[] #[c0, c1, c2]) rfl (by kernel_rfl) (fun _ _ _ h => h) hS rfl (by intro w; go_simp) ?_
      simp only [List.getElem_toArray, List.getElem_cons_succ, List.getElem_cons_zero, Act.put, List.setIfInBounds_toArray, List.set_cons_zero, List.set_cons_succ]
      refine wpAnyK_take0 7 (.slice ra LQ rc) rfl (by kernel_rfl) (fun _ _ _ h => h) hS rfl (by intro w; go_simp) ?_
      simp only [List.getElem_toArray, List.getElem_cons_succ, List.getElem_cons_zero, Act.put, List.setIfInBounds_toArray, List.set_cons_zero, List.set_cons_succ]
      clear hS
      refine wpAnyK_1 8 (by kernel_rfl) (wpOpK' rfl rfl ?_)
      intro K hK
      refine ocall (f := f) (args := #[.slice ra LQ rc, c0, c1, c2]) (by go_simp; exact HF.out _ _) (HOC.out W2 kq) (fun v3 w3 h3 => ?_)
      obtain ⟨rfl, k3⟩ := h3
      replace kq := kq.keep k3
      refine hK.out _ _ (HSF.out w3 kq) ?_
      clear hK K k3
      simp only [List.getElem_toArray, List.getElem_cons_succ, List.getElem_cons_zero, Act.put, List.setIfInBounds_toArray, List.set_cons_zero, List.set_cons_succ]
      have hS := HSF.out w3 kq
      have hw1 := HW1.out
      have hw2 := HW2.out
      refine wpAnyK_take0 9 (.int .i64 (x * y)) rfl (by kernel_rfl) (fun _ _ _ h => h) hS rfl (by intro w; go_simp) ?_
      simp only [List.getElem_toArray, List.getElem_cons_succ, List.getElem_cons_zero, Act.put, List.setIfInBounds_toArray, List.set_cons_zero, List.set_cons_succ]
      refine wpAnyK_take0 10 (.int .i64 (u + x * y)) rfl (by kernel_rfl) (fun _ _ _ h => h) hS rfl (by intro w; go_simp) ?_
      simp only [List.getElem_toArray, List.getElem_cons_succ, List.getElem_cons_zero, Act.put, List.setIfInBounds_toArray, List.set_cons_zero, List.set_cons_succ]
      clear hS hw1 hw2
      refine wpAnyK_tail 11 rfl (by kernel_rfl) ?_
      simp only [List.drop_succ_cons, List.drop_zero]
      go_wp2_with fail
      go_round
      case rel => exact ⟨i + 1, hlt, by go_num, by rw [HNX.out], kr.keep kq⟩
      case measure => simp [intOf]; omega
    · have hie : i = qs.length := by omega
      subst hie
      have hb := ch_bound HC.out
      have hsu := ch_sum HC.out
      obtain ⟨t, ht⟩ : ∃ t, sumW ws = t := ⟨_, rfl⟩
      rw [ht] at hsu
      have HSUM : Hid (∀ W, Chg No wr W → Calls Tryz.prog 51 #[.slice wa qs.length wc] W (Ret fun r w' => r = .int .i64 t ∧ Chg No W w')) := Lib.hid (fun W k => by
        have := (total_any A _ ws W (hw.keep (kw.keep k)) hb).mono (fun e w' h => (⟨_, h.1, rfl, h.2 ▸ Chg.refl No W⟩ : Ret (fun r w' => r = .int .i64 (sumW ws) ∧ Chg No W w') e w'))
        rwa [ht] at this)
      obtain ⟨fr, hfr⟩ : ∃ fr, mkFr u t = fr := ⟨_, rfl⟩
      have HMK : Hid (∀ W, Calls Tryz.prog 49 #[.int .i64 u, .int .i64 t] W (Ret fun v w' => v = .tuple #[.agg #[.int .i64 fr.num, .int .i64 fr.den], .bool fr.ok] ∧ Chg No W w')) := Lib.hid (fun W => by
        have := ret2_eq (makeFrac_any u t W (by omega) (by omega) (by omega) (by omega))
        rwa [hfr] at this)
      have HV : Hid (mkFr (meV g qs ws qs.length) (sumW ws) = fr) := Lib.hid (by rw [hu, ht]; exact hfr)
      have g0 := bb0.c 0 _ rfl
      have g1 := bb0.c 1 _ rfl
      have HB := Lib.hid (And.intro bb0 (And.intro bb2 (And.intro kw HSS.out)))
      clear hb hsu ht hfr hu hmi bb0 bb2 kw
      go_wp2_with fail
      refine (HSUM.out _ (Chg.refl No wr)).mono ?_
      rintro e w3 ⟨_, rfl, rfl, k3⟩
      clear HSUM g0 g1
      go_wp2_with fail
      refine (HMK.out w3).mono ?_
      rintro e w4 ⟨_, rfl, rfl, k4⟩
      have kq := k3.keep k4
      have b2' := HB.out.2.1.keep kq
      have kw' := HB.out.2.2.1.keep kq
      have g0 := b2'.c 0 _ rfl
      have g1 := b2'.c 1 _ rfl
      have f0 := b2'.fr 0
      have f1 := b2'.fr 1
      have hsz := b2'.lt
      have b3 := (b2'.set (i := 0) (by simp) (.int .i64 fr.num)).set (i := 1) (by simp) (.int .i64 fr.den)
      have z0 := b3.c 0 _ rfl
      have z1 := b3.c 1 _ rfl
      have kf := (kw'.setCell (p := ⟨S2, 0, none⟩) (fun h => by have := HB.out.2.2.2; simp at h; omega) (.int .i64 fr.num)).setCell (p := ⟨S2, 1, none⟩) (fun h => by have := HB.out.2.2.2; simp at h; omega) (.int .i64 fr.den)
      clear kq b2' kw' k3 k4 b3
      go_wp2_with fail
      exact bodyPost_ret (v := .tuple #[.agg #[.int .i64 fr.num, .int .i64 fr.den], .bool fr.ok]) (by simp [results, Tryz.results38, go_sem, z0, z1]) rfl ⟨_, _, rfl, by rw [HV.out], by rw [HV.out], kf⟩
end Go.Proofs.YtndhijckbponkaaGreat
