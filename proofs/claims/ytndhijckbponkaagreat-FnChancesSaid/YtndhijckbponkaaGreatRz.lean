import Derived.Test.YtndhijckbponkaaGreatRx
/- the expected cost of an algorithm: the reference's walk -/
namespace Go.Proofs.YtndhijckbponkaaGreat
open Go.RowKit

set_option maxRecDepth 100000 in
set_option maxHeartbeats 2000000 in
theorem specExpectedCost_any (A B : Nat → Prop) (v nv cv : Value) (p : Pr) (nx : List (List Int)) (s : Int) (qs : List (List Int)) (ws : List Int) (w : World) (hp : RPr A w v p) (hn : RII B w nv nx) (hc : RCh A w cv qs ws) :
    Calls Tryz.prog 12 #[v, nv, .int .i64 s, cv] w (Ret2 fun v0 v1 w' => v0 = .agg #[.int .i64 (ecoV p nx s qs ws).num, .int .i64 (ecoV p nx s qs ws).den] ∧ v1 = .bool (ecoV p nx s qs ws).ok ∧ Chg No w w') := by
  have hv := hp
  have hcv := hc
  obtain ⟨mv, sv', rfl, hm, hsv⟩ := hp
  obtain ⟨wv, qv, rfl, hw, hq⟩ := hc
  obtain ⟨ma, mc, rfl⟩ := hm.shape
  obtain ⟨sa, sc, rfl⟩ := hsv.shape
  obtain ⟨qa, qc, rfl⟩ := hq.shape
  obtain ⟨wa, wc, rfl, _⟩ := id hw
  obtain ⟨na, nc, rfl⟩ := hn.shape
  cases hd : drawB p s qs ws
  · have HV : Hid (ecoV p nx s qs ws = ⟨0, 0, false⟩) := Lib.hid (by unfold ecoV; rw [hd]; rfl)
    have HD := Lib.hid hd
    clear hd
    go_enter Tryz.func12, Tryz.ntmps12
    go_wp2_with fail
    refine bx3 (R := fun W => Calls _ _ _ W _) (fun W0 k0 b0 b1 b2 => ?_)
    refine (l11Start_any _ _ _ p s qs ws W0 (hv.keep k0) (hcv.keep k0)).mono ?_
    rintro e w1 ⟨_, rfl, rfl, k1⟩
    rw [HD.out]
    have kk := k0.keep k1
    have b2 := b2.keep k1
    have g0 := b2.c 0 _ rfl
    have g1 := b2.c 1 _ rfl
    have f0 := b2.fr 0
    have f1 := b2.fr 1
    have hsz := b2.lt
    obtain ⟨S2, hS2⟩ : ∃ S2, w.heap.size + 1 + 1 = S2 := ⟨_, rfl⟩
    rw [hS2] at b2 g0 g1 f0 f1 hsz ⊢
    have b3 := (b2.set (i := 0) (by simp) (.int .i64 0)).set (i := 1) (by simp) (.int .i64 0)
    have z0 := b3.c 0 _ rfl
    have z1 := b3.c 1 _ rfl
    have kk := (kk.setCell (p := ⟨S2, 0, none⟩) (fun h => by simp at h; omega) (.int .i64 0)).setCell (p := ⟨S2, 1, none⟩) (fun h => by simp at h; omega) (.int .i64 0)
    go_wp2_with fail
    exact bodyPost_ret (v := .tuple #[.agg #[.int .i64 0, .int .i64 0], .bool false]) (by simp [results, Tryz.results12, go_sem, z0, z1]) rfl ⟨_, _, rfl, by rw [HV.out], by rw [HV.out], kk⟩
  have hpp0 := (drawB_facts hd).1
  cases ha : bP (AlgP p nx)
  · have HV : Hid (ecoV p nx s qs ws = ⟨0, 0, false⟩) := Lib.hid (by unfold ecoV; rw [hd, ha]; rfl)
    have HD := Lib.hid hd
    have HA := Lib.hid ha
    clear hd ha
    go_enter Tryz.func12, Tryz.ntmps12
    go_wp2_with fail
    refine bx3 (R := fun W => Calls _ _ _ W _) (fun W0 k0 b0 b1 b2 => ?_)
    refine (l11Start_any _ _ _ p s qs ws W0 (hv.keep k0) (hcv.keep k0)).mono ?_
    rintro e w1 ⟨_, rfl, rfl, k1⟩
    rw [HD.out]
    have kk := k0.keep k1
    have g0 := (b0.keep k1).c 0 _ rfl
    have g1 := (b0.keep k1).c 1 _ rfl
    go_wp2_with fail
    refine (l8Alg_any _ _ _ _ p nx w1 hpp0 (hv.keep kk) (hn.keep kk)).mono ?_
    rintro e w2 ⟨_, rfl, rfl, k2⟩
    rw [HA.out]
    have kk := kk.keep k2
    have b2 := b2.keep (k1.keep k2)
    clear g0 g1
    have g0 := b2.c 0 _ rfl
    have g1 := b2.c 1 _ rfl
    have f0 := b2.fr 0
    have f1 := b2.fr 1
    have hsz := b2.lt
    obtain ⟨S2, hS2⟩ : ∃ S2, w.heap.size + 1 + 1 = S2 := ⟨_, rfl⟩
    rw [hS2] at b2 g0 g1 f0 f1 hsz ⊢
    have b3 := (b2.set (i := 0) (by simp) (.int .i64 0)).set (i := 1) (by simp) (.int .i64 0)
    have z0 := b3.c 0 _ rfl
    have z1 := b3.c 1 _ rfl
    have kk := (kk.setCell (p := ⟨S2, 0, none⟩) (fun h => by simp at h; omega) (.int .i64 0)).setCell (p := ⟨S2, 1, none⟩) (fun h => by simp at h; omega) (.int .i64 0)
    go_wp2_with fail
    exact bodyPost_ret (v := .tuple #[.agg #[.int .i64 0, .int .i64 0], .bool false]) (by simp [results, Tryz.results12, go_sem, z0, z1]) rfl ⟨_, _, rfl, by rw [HV.out], by rw [HV.out], kk⟩
  obtain ⟨hpp, hcc, hs0, hs1⟩ := drawB_facts hd
  obtain ⟨S, rfl⟩ : ∃ S : Nat, s = (S : Int) := ⟨s.toNat, by omega⟩
  have hS : S < p.mv.length := by omega
  have HV : Hid (ecoV p nx (S : Int) qs ws = mkFr (meV (rest p (algT nx) S []) qs ws qs.length) (sumW ws)) := Lib.hid (by unfold ecoV; rw [hd, ha, Int.toNat_natCast]; rfl)
  have HD := Lib.hid hd
  have HA := Lib.hid ha
  have hal := bP_iff.1 ha
  have HP := Lib.hid (And.intro hpp hcc)
  have HAL := Lib.hid hal
  have HOI : Hid (∀ i, i < qs.length → 0 ≤ rest p (algT nx) S [] (qs.getD i []) ∧ rest p (algT nx) S [] (qs.getD i []) ≤ 813) := Lib.hid (fun i hi => by
    have h1 := rest_in hpp hal hS (ch_seq hcc hi).2
    have h2 := (ch_seq hcc hi).1
    omega)
  have hql12 : qs.length ≤ 12 := hcc.1.2
  have hwl : ws.length = qs.length := hcc.2.1
  rw [hwl] at hw hcv ⊢
  have HWL := Lib.hid hwl
  clear hd hpp hcc hwl ha hal hpp0
  go_enter Tryz.func12, Tryz.ntmps12
  go_wp2_with fail
  refine bx3 (R := fun W => Calls _ _ _ W _) (fun W0 k0 b0 b1 b2 => ?_)
  refine (l11Start_any _ _ _ p (S : Int) qs ws W0 (hv.keep k0) (hcv.keep k0)).mono ?_
  rintro e w1 ⟨_, rfl, rfl, k1⟩
  rw [HD.out]
  have g0 := (b0.keep k1).c 0 _ rfl
  have g1 := (b0.keep k1).c 1 _ rfl
  have kk := k0.keep k1
  go_wp2_with fail
  refine (l8Alg_any _ _ _ _ p nx w1 HP.out.1 (hv.keep kk) (hn.keep kk)).mono ?_
  rintro e w2 ⟨_, rfl, rfl, k2⟩
  rw [HA.out]
  replace k1 := k1.keep k2
  clear g0 g1 kk
  have kk := k0.keep k1
  replace b0 := b0.keep k1
  replace b1 := b1.keep k1
  replace b2 := b2.keep k1
  obtain ⟨S2, hS2⟩ : ∃ S2, w.heap.size + 1 + 1 = S2 := ⟨_, rfl⟩
  obtain ⟨R0, hR0⟩ : ∃ R0, w.heap.size = R0 := ⟨_, rfl⟩
  rw [hS2] at b2 ⊢
  rw [hR0] at b0 b1 ⊢
  have HSS := Lib.hid (And.intro hS2 hR0)
  clear hS2 hR0 k0 k1 k2
  go_wp2_with fail
  go_loopw [10, 11] (fun o z wr => ∃ i : Nat, i ≤ qs.length ∧ z = .int .i64 (i : Int) ∧ o = .int .i64 (meV (rest p (algT nx) S []) qs ws i) ∧ Chg No w2 wr) (fun _ z _ => qs.length - (intOf z).toNat)
  case atStart => exact ⟨0, Nat.zero_le _, rfl, rfl, Chg.refl _ _⟩
  case round =>
    obtain ⟨i, hi, rfl, rfl, kr⟩ := hrel
    have hi0 : (0 : Int) ≤ (i : Int) := Int.natCast_nonneg _
    have hmi := meV_in HP.out.2 HOI.out i hi
    obtain ⟨u, hu⟩ : ∃ u, meV (rest p (algT nx) S []) qs ws i = u := ⟨_, rfl⟩
    rw [hu] at hmi ⊢
    have kw := kk.keep kr
    have bb0 := b0.keep kr
    have bb1 := b1.keep kr
    have bb2 := b2.keep kr
    by_cases hlt : i < qs.length
    · have hi1 : (i : Int) < (qs.length : Int) := by omega
      have hwi : IntKind.i64.wrap ((i : Int) + 1) = (i : Int) + 1 := IntWalk.i64_in _ (by omega)
      have HNX := Lib.hid (show meV (rest p (algT nx) S []) qs ws (i + 1) = u + ws.getD i 0 * rest p (algT nx) S [] (qs.getD i []) by rw [← hu]; rfl)
      have hx := ch_get HP.out.2 i (by have := HWL.out; omega)
      have hy := HOI.out i hlt
      obtain ⟨x, hxx⟩ : ∃ x, ws.getD i 0 = x := ⟨_, rfl⟩
      obtain ⟨y, hyy⟩ : ∃ y, rest p (algT nx) S [] (qs.getD i []) = y := ⟨_, rfl⟩
      rw [hxx, hyy] at HNX
      rw [hxx] at hx
      rw [hyy] at hy
      have hm0 : 0 ≤ x * y := Int.mul_nonneg (by omega) hy.1
      have hm1 : x * y ≤ 9 * 813 := Int.mul_le_mul hx.2 hy.2 hy.1 (by omega)
      have HW1 : Hid (IntKind.i64.wrap (x * y) = x * y) := Lib.hid (IntWalk.i64_in _ (by omega))
      have HW2 : Hid (IntKind.i64.wrap (u + x * y) = u + x * y) := Lib.hid (IntWalk.i64_in _ (by omega))
      obtain ⟨wb, wf, rfl, hwb, hcw⟩ := hw.cellN (j := i) (by have := HWL.out; omega)
      rw [hxx] at hcw
      obtain ⟨qb, qf, ra, rc, rfl, hqb, hcq, hrr⟩ := hq.row hlt
      have HSQ := Lib.hid (ch_seq HP.out.2 hlt)
      have HYY := Lib.hid hyy
      obtain ⟨LQ, hLQ⟩ : ∃ L, (qs.getD i []).length = L := ⟨_, rfl⟩
      rw [hLQ] at hcq
      have SF : ∀ W, Chg No wr W → ((W.cell? ⟨R0, 0, none⟩ = some (.slice ma p.mv.length mc) ∧ W.cell? ⟨R0, 1, none⟩ = some (.slice sa p.sv.length sc)) ∧ W.cell? ⟨R0 + 1, 0, none⟩ = some (.slice (some ⟨wb, wf, none⟩) qs.length wc) ∧ W.cell? ⟨R0 + 1, 1, none⟩ = some (.slice (some ⟨qb, qf, none⟩) qs.length qc)) ∧ W.cell? ⟨wb, wf + i, none⟩ = some (.int .i64 x) ∧ W.cell? ⟨qb, qf + i, none⟩ = some (.slice ra LQ rc) :=
        fun W k => ⟨⟨⟨(bb0.keep k).c 0 _ rfl, (bb0.keep k).c 1 _ rfl⟩, (bb1.keep k).c 0 _ rfl, (bb1.keep k).c 1 _ rfl⟩, ((kw.keep k).cellD wb (wf + i) hwb (fun e => e)).trans hcw, ((kw.keep k).cellD qb (qf + i) hqb (fun e => e)).trans hcq⟩
      have HSF := Lib.hid SF
      have g1 := bb1.c 1 _ rfl
      have HOC : Hid (∀ W, Chg No wr W → Calls Tryz.prog 43 #[.agg #[.slice ma p.mv.length mc, .slice sa p.sv.length sc], .slice na nx.length nc, .int .i64 (S : Int), .slice ra LQ rc] W (Ret fun r w' => r = .int .i64 y ∧ Chg No W w')) := Lib.hid (fun W k => by
        have := l8Cost_any A B A _ _ _ p nx S (qs.getD i []) W HP.out.1 (hv.keep (kw.keep k)) HAL.out (hn.keep (kw.keep k)) (hrr.keep (kw.keep k)) hS HSQ.out.2 (by have := HSQ.out.1; omega)
        rwa [hyy, hLQ] at this)
      clear SF hm0 hm1 hx hy hxx hyy hLQ hcw hcq hrr hmi hu
      go_wp2_with fail
      refine wp_region_K (S := fun W => ((W.cell? ⟨R0, 0, none⟩ = some (.slice ma p.mv.length mc) ∧ W.cell? ⟨R0, 1, none⟩ = some (.slice sa p.sv.length sc)) ∧ W.cell? ⟨R0 + 1, 0, none⟩ = some (.slice (some ⟨wb, wf, none⟩) qs.length wc) ∧ W.cell? ⟨R0 + 1, 1, none⟩ = some (.slice (some ⟨qb, qf, none⟩) qs.length qc)) ∧ W.cell? ⟨wb, wf + i, none⟩ = some (.int .i64 x) ∧ W.cell? ⟨qb, qf + i, none⟩ = some (.slice ra LQ rc)) (k := 17) (by kernel_rfl) ?_
      have kq : Chg No wr (World.drew wr) := drewN0 _
      generalize wr.drew = W2 at kq ⊢
      have hS := HSF.out W2 kq
      refine wpAnyK_take0 0 (.int .i64 u) rfl (by kernel_rfl) (fun _ _ _ h => h) hS rfl (by intro w; go_simp) ?_
      simp only [List.getElem_toArray, List.getElem_cons_zero, Act.put, List.setIfInBounds_toArray, List.set_cons_zero, List.set_cons_succ]
      refine wpAnyK_take0 1 (.pointer (some ⟨R0 + 1, 0, none⟩)) rfl (by kernel_rfl) (fun _ _ _ h => h) hS rfl (by intro w; go_simp) ?_
      simp only [List.getElem_toArray, List.getElem_cons_succ, List.getElem_cons_zero, Act.put, List.setIfInBounds_toArray, List.set_cons_zero, List.set_cons_succ]
      refine wpAnyK_take 2 (.slice (some ⟨wb, wf, none⟩) qs.length wc) rfl (by kernel_rfl) (fun _ _ _ h => h) hS rfl (by intro w hSw; go_simp) ?_
      simp only [List.getElem_toArray, List.getElem_cons_succ, List.getElem_cons_zero, Act.put, List.setIfInBounds_toArray, List.set_cons_zero, List.set_cons_succ]
      refine wpAnyK_take0 3 (.int .i64 (i : Int)) rfl (by kernel_rfl) (fun _ _ _ h => h) hS rfl (by intro w; go_simp) ?_
      simp only [List.getElem_toArray, List.getElem_cons_succ, List.getElem_cons_zero, Act.put, List.setIfInBounds_toArray, List.set_cons_zero, List.set_cons_succ]
      refine wpAnyK_take0 4 (.pointer (some ⟨wb, wf + i, none⟩)) rfl (by kernel_rfl) (fun _ _ _ h => h) hS rfl (by intro w; go_simp) ?_
      simp only [List.getElem_toArray, List.getElem_cons_succ, List.getElem_cons_zero, Act.put, List.setIfInBounds_toArray, List.set_cons_zero, List.set_cons_succ]
      refine wpAnyK_take 5 (.int .i64 x) rfl (by kernel_rfl) (fun _ _ _ h => h) hS rfl (by intro w hSw; go_simp) ?_
      simp only [List.getElem_toArray, List.getElem_cons_succ, List.getElem_cons_zero, Act.put, List.setIfInBounds_toArray, List.set_cons_zero, List.set_cons_succ]
      refine wpAnyK_takeT 6 (.agg #[.slice ma p.mv.length mc, .slice sa p.sv.length sc]) rfl (by kernel_rfl) (fun _ _ _ h => h) hS rfl (by intro w hSw; go_simp) ?_
      simp only [List.getElem_toArray, List.getElem_cons_succ, List.getElem_cons_zero, Act.put, List.setIfInBounds_toArray, List.set_cons_zero, List.set_cons_succ]
      refine wpAnyK_take0 7 (.slice na nx.length nc) rfl (by kernel_rfl) (fun _ _ _ h => h) hS rfl (by intro w; go_simp) ?_
      simp only [List.getElem_toArray, List.getElem_cons_succ, List.getElem_cons_zero, Act.put, List.setIfInBounds_toArray, List.set_cons_zero, List.set_cons_succ]
      refine wpAnyK_take0 8 (.int .i64 (S : Int)) rfl (by kernel_rfl) (fun _ _ _ h => h) hS rfl (by intro w; go_simp) ?_
      simp only [List.getElem_toArray, List.getElem_cons_succ, List.getElem_cons_zero, Act.put, List.setIfInBounds_toArray, List.set_cons_zero, List.set_cons_succ]
      refine wpAnyK_take0 9 (.pointer (some ⟨R0 + 1, 1, none⟩)) rfl (by kernel_rfl) (fun _ _ _ h => h) hS rfl (by intro w; go_simp) ?_
      simp only [List.getElem_toArray, List.getElem_cons_succ, List.getElem_cons_zero, Act.put, List.setIfInBounds_toArray, List.set_cons_zero, List.set_cons_succ]
      refine wpAnyK_take 10 (.slice (some ⟨qb, qf, none⟩) qs.length qc) rfl (by kernel_rfl) (fun _ _ _ h => h) hS rfl (by intro w hSw; go_simp) ?_
      simp only [List.getElem_toArray, List.getElem_cons_succ, List.getElem_cons_zero, Act.put, List.setIfInBounds_toArray, List.set_cons_zero, List.set_cons_succ]
      refine wpAnyK_take0 11 (.int .i64 (i : Int)) rfl (by kernel_rfl) (fun _ _ _ h => h) hS rfl (by intro w; go_simp) ?_
      simp only [List.getElem_toArray, List.getElem_cons_succ, List.getElem_cons_zero, Act.put, List.setIfInBounds_toArray, List.set_cons_zero, List.set_cons_succ]
      refine wpAnyK_take0 12 (.pointer (some ⟨qb, qf + i, none⟩)) rfl (by kernel_rfl) (fun _ _ _ h => h) hS rfl (by intro w; go_simp) ?_
      simp only [List.getElem_toArray, List.getElem_cons_succ, List.getElem_cons_zero, Act.put, List.setIfInBounds_toArray, List.set_cons_zero, List.set_cons_succ]
      refine wpAnyK_take 13 (.slice ra LQ rc) rfl (by kernel_rfl) (fun _ _ _ h => h) hS rfl (by intro w hSw; go_simp) ?_
      simp only [List.getElem_toArray, List.getElem_cons_succ, List.getElem_cons_zero, Act.put, List.setIfInBounds_toArray, List.set_cons_zero, List.set_cons_succ]
      clear hS
      refine wpAnyK_1 14 (by kernel_rfl) (wpOpK' rfl rfl ?_)
      intro K hK
      refine ocall (f := 43) (args := #[.agg #[.slice ma p.mv.length mc, .slice sa p.sv.length sc], .slice na nx.length nc, .int .i64 (S : Int), .slice ra LQ rc]) (by go_simp) (HOC.out W2 kq) (fun v3 w3 h3 => ?_)
      obtain ⟨rfl, k3⟩ := h3
      replace kq := kq.keep k3
      refine hK.out _ _ (HSF.out w3 kq) ?_
      clear hK K k3
      simp only [List.getElem_toArray, List.getElem_cons_succ, List.getElem_cons_zero, Act.put, List.setIfInBounds_toArray, List.set_cons_zero, List.set_cons_succ]
      have hS := HSF.out w3 kq
      have hw1 := HW1.out
      have hw2 := HW2.out
      refine wpAnyK_take0 15 (.int .i64 (x * y)) rfl (by kernel_rfl) (fun _ _ _ h => h) hS rfl (by intro w; go_simp) ?_
      simp only [List.getElem_toArray, List.getElem_cons_succ, List.getElem_cons_zero, Act.put, List.setIfInBounds_toArray, List.set_cons_zero, List.set_cons_succ]
      refine wpAnyK_take0 16 (.int .i64 (u + x * y)) rfl (by kernel_rfl) (fun _ _ _ h => h) hS rfl (by intro w; go_simp) ?_
      simp only [List.getElem_toArray, List.getElem_cons_succ, List.getElem_cons_zero, Act.put, List.setIfInBounds_toArray, List.set_cons_zero, List.set_cons_succ]
      clear hS hw1 hw2
      refine wpAnyK_tail 17 rfl (by kernel_rfl) ?_
      simp only [List.drop_succ_cons, List.drop_zero]
      go_wp2_with fail
      go_round
      case rel => exact ⟨i + 1, hlt, by go_num, by rw [HNX.out], kr.keep kq⟩
      case measure => simp [intOf]; omega
    · have hie : i = qs.length := by omega
      subst hie
      have hb := ch_bound HP.out.2
      have hsu := ch_sum HP.out.2
      obtain ⟨t, ht⟩ : ∃ t, sumW ws = t := ⟨_, rfl⟩
      rw [hu, ht] at HV
      rw [ht] at hsu
      have HSUM : Hid (∀ W, Chg No wr W → Calls Tryz.prog 45 #[.slice wa qs.length wc] W (Ret fun r w' => r = .int .i64 t ∧ Chg No W w')) := Lib.hid (fun W k => by
        have := (l11Sum_any A _ ws W (hw.keep (kw.keep k)) hb).mono (fun e w' h => (⟨_, h.1, rfl, h.2 ▸ Chg.refl No W⟩ : Ret (fun r w' => r = .int .i64 (sumW ws) ∧ Chg No W w') e w'))
        rwa [ht] at this)
      obtain ⟨fr, hfr⟩ : ∃ fr, mkFr u t = fr := ⟨_, rfl⟩
      have HMK : Hid (∀ W, Calls Tryz.prog 44 #[.int .i64 u, .int .i64 t] W (Ret fun v w' => v = .tuple #[.agg #[.int .i64 fr.num, .int .i64 fr.den], .bool fr.ok] ∧ Chg No W w')) := Lib.hid (fun W => by
        have := ret2_eq (l2Make_any u t W (by omega) (by omega) (by omega) (by omega))
        rwa [hfr] at this)
      rw [hfr] at HV
      have g0 := bb1.c 0 _ rfl
      have g1 := bb1.c 1 _ rfl
      have HB := Lib.hid (And.intro bb1 (And.intro bb2 (And.intro kw HSS.out)))
      clear hb hsu ht hfr hu hmi bb0 bb1 bb2 kw
      go_wp2_with fail
      refine (HSUM.out wr (Chg.refl No wr)).mono ?_
      rintro e w3 ⟨_, rfl, rfl, k3⟩
      clear HSUM g0 g1
      go_wp2_with fail
      refine (HMK.out w3).mono ?_
      rintro e w4 ⟨_, rfl, rfl, k4⟩
      have kq := k3.keep k4
      have b2' := HB.out.2.1.keep kq
      have kw' := HB.out.2.2.1.keep kq
      have g0 := b2'.c 0 _ rfl
      have g1 := b2'.c 1 _ rfl
      have f0 := b2'.fr 0
      have f1 := b2'.fr 1
      have hsz := b2'.lt
      have b3 := (b2'.set (i := 0) (by simp) (.int .i64 fr.num)).set (i := 1) (by simp) (.int .i64 fr.den)
      have z0 := b3.c 0 _ rfl
      have z1 := b3.c 1 _ rfl
      have kf := (kw'.setCell (p := ⟨S2, 0, none⟩) (fun h => by have := HB.out.2.2.2; simp at h; omega) (.int .i64 fr.num)).setCell (p := ⟨S2, 1, none⟩) (fun h => by have := HB.out.2.2.2; simp at h; omega) (.int .i64 fr.den)
      clear kq b2' kw' k3 k4 b3
      go_wp2_with fail
      exact bodyPost_ret (v := .tuple #[.agg #[.int .i64 fr.num, .int .i64 fr.den], .bool fr.ok]) (by simp [results, Tryz.results12, go_sem, z0, z1]) rfl ⟨_, _, rfl, by rw [HV.out], by rw [HV.out], kf⟩
end Go.Proofs.YtndhijckbponkaaGreat
