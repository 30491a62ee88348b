import Derived.Test.YtndhijckbponkaaGreatPkX15
/- BestExpected, both sides -/
namespace Go.Proofs.YtndhijckbponkaaGreat
open Go.RowKit

noncomputable def bexV (p : Pr) (s : Int) (qs : List (List Int)) (ws : List Int) : Fr := if drawB p s qs ws then mkFr (ahead p (qs.zip ws) (qs.getD 0 []).length s.toNat []) (sumW ws) else ⟨0, 0, false⟩
theorem sumTo_in {f : Nat → Int} {lo hi : Int} : ∀ k, (∀ i, i < k → lo ≤ f i ∧ f i ≤ hi) → lo * (k : Int) ≤ sumTo f k ∧ sumTo f k ≤ hi * (k : Int)
  | 0, _ => by simp [sumTo]
  | k + 1, h => by
    have ih := sumTo_in k (fun i hi => h i (by omega))
    have h1 := h k (by omega)
    simp only [sumTo]
    push_cast
    rw [Int.mul_add, Int.mul_add, Int.mul_one, Int.mul_one]
    omega
theorem ch_get {k : Nat} {qs : List (List Int)} {ws : List Int} (h : ChP k 12 6 qs ws) : ∀ i, i < ws.length → 1 ≤ ws.getD i 0 ∧ ws.getD i 0 ≤ 9 := fun i hi =>
  h.2.2.1 (ws.getD i 0) (by rw [List.getD_eq_getElem?_getD, List.getElem?_eq_getElem hi]; exact List.getElem_mem _)
theorem ch_bound {k : Nat} {qs : List (List Int)} {ws : List Int} (h : ChP k 12 6 qs ws) : ∀ j, j ≤ ws.length → -1000000000 ≤ sumTo (fun a => ws.getD a 0) j ∧ sumTo (fun a => ws.getD a 0) j ≤ 1000000000 := fun j hj => by
  have h1 := sumTo_in (f := fun a => ws.getD a 0) (lo := 1) (hi := 9) j (fun i hi => ch_get h i (by omega))
  have h2 := h.1.2
  have h3 := h.2.1
  omega
theorem ch_sum {k : Nat} {qs : List (List Int)} {ws : List Int} (h : ChP k 12 6 qs ws) : 1 ≤ sumW ws ∧ sumW ws ≤ 108 := by
  have h1 := sumTo_in (f := fun a => ws.getD a 0) (lo := 1) (hi := 9) ws.length (fun i hi => ch_get h i hi)
  have h2 := h.1
  have h3 := h.2.1
  unfold sumW
  omega
set_option maxRecDepth 100000 in
set_option maxHeartbeats 2000000 in
theorem implBestExpected_any (A : Nat → Prop) (v cv : Value) (p : Pr) (s : Int) (qs : List (List Int)) (ws : List Int) (w : World) (hp : RPr A w v p) (hc : RCh A w cv qs ws) :
    Calls Tryz.prog 15 #[v, .int .i64 s, cv] w (Ret2 fun v0 v1 w' => v0 = .agg #[.int .i64 (bexV p s qs ws).num, .int .i64 (bexV p s qs ws).den] ∧ v1 = .bool (bexV p s qs ws).ok ∧ Chg No w w') := by
  have hv := hp
  have hcv := hc
  obtain ⟨mv, sv', rfl, hm, hsv⟩ := hp
  obtain ⟨wv, qv, rfl, hw, hq⟩ := hc
  obtain ⟨ma, mc, rfl⟩ := hm.shape
  obtain ⟨sa, sc, rfl⟩ := hsv.shape
  obtain ⟨qa, qc, rfl⟩ := hq.shape
  obtain ⟨wa, wc, rfl, _⟩ := id hw
  cases hd : drawB p s qs ws
  · have HV : Hid (bexV p s qs ws = ⟨0, 0, false⟩) := Lib.hid (by unfold bexV; rw [hd]; rfl)
    have HD := Lib.hid hd
    clear hd
    go_enter Tryz.func15, Tryz.ntmps15
    go_wp2_with fail
    refine bx3 (R := fun W => Calls _ _ _ W _) (fun W0 k0 b0 b1 b2 => ?_)
    refine (isDrawn_any _ _ _ p s qs ws W0 (hv.keep k0) (hcv.keep k0)).mono ?_
    rintro e w1 ⟨_, rfl, rfl, k1⟩
    rw [HD.out]
    have kk := k0.keep k1
    have b2 := b2.keep k1
    have g0 := b2.c 0 _ rfl
    have g1 := b2.c 1 _ rfl
    have f0 := b2.fr 0
    have f1 := b2.fr 1
    have hsz := b2.lt
    obtain ⟨S2, hS2⟩ : ∃ S2, w.heap.size + 1 + 1 = S2 := ⟨_, rfl⟩
    rw [hS2] at b2 g0 g1 f0 f1 hsz ⊢
    have b3 := (b2.set (i := 0) (by simp) (.int .i64 0)).set (i := 1) (by simp) (.int .i64 0)
    have z0 := b3.c 0 _ rfl
    have z1 := b3.c 1 _ rfl
    have kk := (kk.setCell (p := ⟨S2, 0, none⟩) (fun h => by simp at h; omega) (.int .i64 0)).setCell (p := ⟨S2, 1, none⟩) (fun h => by simp at h; omega) (.int .i64 0)
    go_wp2_with fail
    exact bodyPost_ret (v := .tuple #[.agg #[.int .i64 0, .int .i64 0], .bool false]) (by simp [results, Tryz.results15, go_sem, z0, z1]) rfl ⟨_, _, rfl, by rw [HV.out], by rw [HV.out], kk⟩
  obtain ⟨hpp, hcc, hs0, hs1⟩ := drawB_facts hd
  have g := Gd.of hpp hcc
  have hl6 := g.l6
  have hb := ch_bound hcc
  have hsu := ch_sum hcc
  obtain ⟨S, rfl⟩ : ∃ S : Nat, s = (S : Int) := ⟨s.toNat, by omega⟩
  have HV : Hid (bexV p (S : Int) qs ws = mkFr (ahead p (qs.zip ws) (qs.getD 0 []).length S []) (sumW ws)) := Lib.hid (by unfold bexV; rw [hd, Int.toNat_natCast]; rfl)
  have hah := g.ah (n := (qs.getD 0 []).length) (s := S) (by omega) (by omega) []
  have HA := Lib.hid ((iAll g (qs.getD 0 []).length).1)
  have HD := Lib.hid hd
  obtain ⟨L, hL⟩ : ∃ L, (qs.getD 0 []).length = L := ⟨_, rfl⟩
  rw [hL] at HV hah HA hl6
  obtain ⟨u, hu⟩ : ∃ u, ahead p (qs.zip ws) L S [] = u := ⟨_, rfl⟩
  obtain ⟨t, ht⟩ : ∃ t, sumW ws = t := ⟨_, rfl⟩
  rw [hu, ht] at HV
  rw [hu] at hah
  rw [ht] at hsu
  have HU := Lib.hid hu
  have HT := Lib.hid ht
  have HB := Lib.hid hb
  clear hd hu ht hb hL
  go_enter Tryz.func15, Tryz.ntmps15
  go_wp2_with fail
  refine bx3 (R := fun W => Calls _ _ _ W _) (fun W0 k0 b0 b1 b2 => ?_)
  refine (isDrawn_any _ _ _ p (S : Int) qs ws W0 (hv.keep k0) (hcv.keep k0)).mono ?_
  rintro e w1 ⟨_, rfl, rfl, k1⟩
  rw [HD.out]
  have kk := k0.keep k1
  replace b0 := b0.keep k1
  replace b1 := b1.keep k1
  replace b2 := b2.keep k1
  obtain ⟨S2, hS2⟩ : ∃ S2, w.heap.size + 1 + 1 = S2 := ⟨_, rfl⟩
  rw [hS2] at b2 ⊢
  go_wp2_with fail
  refine wp_region_K (S := fun W => (W.cell? ⟨w.heap.size, 0, none⟩ = some (.slice ma p.mv.length mc) ∧ W.cell? ⟨w.heap.size, 1, none⟩ = some (.slice sa p.sv.length sc)) ∧ W.cell? ⟨w.heap.size + 1, 0, none⟩ = some (.slice wa ws.length wc) ∧ W.cell? ⟨w.heap.size + 1, 1, none⟩ = some (.slice qa qs.length qc)) (k := 7) (by kernel_rfl) ?_
  replace kk := kk.keep (drewN0 _)
  replace b0 := b0.keep (drewN0 _)
  replace b1 := b1.keep (drewN0 _)
  replace b2 := b2.keep (drewN0 _)
  generalize w1.drew = W2 at kk b0 b1 b2 ⊢
  have SF : ∀ W, Chg No W2 W → (W.cell? ⟨w.heap.size, 0, none⟩ = some (.slice ma p.mv.length mc) ∧ W.cell? ⟨w.heap.size, 1, none⟩ = some (.slice sa p.sv.length sc)) ∧ W.cell? ⟨w.heap.size + 1, 0, none⟩ = some (.slice wa ws.length wc) ∧ W.cell? ⟨w.heap.size + 1, 1, none⟩ = some (.slice qa qs.length qc) :=
    fun W k => ⟨⟨(b0.keep k).c 0 _ rfl, (b0.keep k).c 1 _ rfl⟩, (b1.keep k).c 0 _ rfl, (b1.keep k).c 1 _ rfl⟩
  have hS := SF _ (Chg.refl No W2)
  have kq := Chg.refl No W2
  refine wpAnyK_takeT 0 (.agg #[.slice ma p.mv.length mc, .slice sa p.sv.length sc]) rfl (by kernel_rfl) (fun _ _ _ h => h) hS rfl (by intro w hSw; go_simp) ?_
  simp only [List.getElem_toArray, List.getElem_cons_zero, Act.put, List.setIfInBounds_toArray, List.set_cons_zero, List.set_cons_succ]
  refine wpAnyK_take0 1 (.int .i64 (S : Int)) rfl (by kernel_rfl) (fun _ _ _ h => h) hS rfl (by intro w; go_simp) ?_
  simp only [List.getElem_toArray, List.getElem_cons_succ, List.getElem_cons_zero, Act.put, List.setIfInBounds_toArray, List.set_cons_zero, List.set_cons_succ]
  refine wpAnyK_takeT 2 (.agg #[.slice wa ws.length wc, .slice qa qs.length qc]) rfl (by kernel_rfl) (fun _ _ _ h => h) hS rfl (by intro w hSw; go_simp) ?_
  simp only [List.getElem_toArray, List.getElem_cons_succ, List.getElem_cons_zero, Act.put, List.setIfInBounds_toArray, List.set_cons_zero, List.set_cons_succ]
  refine wpAnyK_take0 4 (.pointer (some ⟨w.heap.size + 1, 0, none⟩)) rfl (by kernel_rfl) (fun _ _ _ h => h) hS rfl (by intro w; go_simp) ?_
  simp only [List.getElem_toArray, List.getElem_cons_succ, List.getElem_cons_zero, Act.put, List.setIfInBounds_toArray, List.set_cons_zero, List.set_cons_succ]
  refine wpAnyK_takeT 5 (.slice wa ws.length wc) rfl (by kernel_rfl) (fun _ _ _ h => h) hS rfl (by intro w hSw; go_simp) ?_
  simp only [List.getElem_toArray, List.getElem_cons_succ, List.getElem_cons_zero, Act.put, List.setIfInBounds_toArray, List.set_cons_zero, List.set_cons_succ]
  refine wpAnyK_1 3 (by kernel_rfl) (wpOpK' rfl rfl ?_)
  intro K hK
  refine ocall (f := 50) (args := #[.agg #[.slice ma p.mv.length mc, .slice sa p.sv.length sc], .int .i64 (S : Int), .agg #[.slice wa ws.length wc, .slice qa qs.length qc], .slice none 0 0]) (by go_simp) (HA.out A A _ _ _ S [] W2 (hv.keep kk) (hcv.keep kk) (RI.nil A W2) (by omega) (by simp)) (fun v3 w3 h3 => hK.out _ _ (SF w3 (kq.keep h3.2)) ?_)
  obtain ⟨rfl, k3⟩ := h3
  rw [HU.out]
  clear hK K
  simp only [List.getElem_toArray, List.getElem_cons_succ, List.getElem_cons_zero, Act.put, List.setIfInBounds_toArray, List.set_cons_zero, List.set_cons_succ]
  replace kk := kk.keep k3
  replace kq := kq.keep k3
  refine wpAnyK_1 6 (by kernel_rfl) (wpOpK' rfl rfl ?_)
  intro K hK
  refine ocall (f := 51) (args := #[.slice wa ws.length wc]) (by go_simp) ((total_any A _ ws w3 (hw.keep kk) HB.out).mono (fun e w' h => (⟨_, h.1, rfl, h.2 ▸ Chg.refl No w3⟩ : Ret (fun r w' => r = .int .i64 (sumW ws) ∧ Chg No w3 w') e w'))) (fun v4 w4 h4 => hK.out _ _ (SF w4 (kq.keep h4.2)) ?_)
  obtain ⟨rfl, k4⟩ := h4
  rw [HT.out]
  clear hK K
  simp only [List.getElem_toArray, List.getElem_cons_succ, List.getElem_cons_zero, Act.put, List.setIfInBounds_toArray, List.set_cons_zero, List.set_cons_succ]
  replace kk := kk.keep k4
  replace kq := kq.keep k4
  refine wpAnyK_1 7 (by kernel_rfl) (wpOpK' rfl rfl ?_)
  intro K hK
  refine ocall (f := 49) (args := #[.int .i64 u, .int .i64 t]) (by go_simp) (ret2_eq (makeFrac_any u t w4 (by omega) (by omega) (by omega) (by omega))) (fun v5 w5 h5 => hK.out _ _ (SF w5 (kq.keep h5.2)) ?_)
  obtain ⟨rfl, k5⟩ := h5
  clear hK K
  simp only [List.getElem_toArray, List.getElem_cons_succ, List.getElem_cons_zero, Act.put, List.setIfInBounds_toArray, List.set_cons_zero, List.set_cons_succ]
  replace kk := kk.keep k5
  replace kq := kq.keep k5
  obtain ⟨fr, hfr⟩ : ∃ fr, mkFr u t = fr := ⟨_, rfl⟩
  rw [hfr] at HV ⊢
  clear hfr
  replace hS := SF _ kq
  refine wpAnyK_take0 8 (.agg #[.int .i64 fr.num, .int .i64 fr.den]) rfl (by kernel_rfl) (fun _ _ _ h => h) hS rfl (by intro w; go_simp) ?_
  simp only [List.getElem_toArray, List.getElem_cons_succ, List.getElem_cons_zero, Act.put, List.setIfInBounds_toArray, List.set_cons_zero, List.set_cons_succ]
  refine wpAnyK_take0 9 (.bool fr.ok) rfl (by kernel_rfl) (fun _ _ _ h => h) hS rfl (by intro w; go_simp) ?_
  simp only [List.getElem_toArray, List.getElem_cons_succ, List.getElem_cons_zero, Act.put, List.setIfInBounds_toArray, List.set_cons_zero, List.set_cons_succ]
  refine wpAnyK_tailL 10 rfl (by kernel_rfl) ?_
  simp only [List.drop_succ_cons, List.drop_zero]
  replace b2 := b2.keep kq
  clear SF hS kq b0 b1
  have g0 := b2.c 0 _ rfl
  have g1 := b2.c 1 _ rfl
  have f0 := b2.fr 0
  have f1 := b2.fr 1
  have b3 := (b2.set (i := 0) (by simp) (.int .i64 fr.num)).set (i := 1) (by simp) (.int .i64 fr.den)
  have z0 := b3.c 0 _ rfl
  have z1 := b3.c 1 _ rfl
  replace kk := (kk.setCell (p := ⟨S2, 0, none⟩) (fun h => by simp at h; omega) (.int .i64 fr.num)).setCell (p := ⟨S2, 1, none⟩) (fun h => by simp at h; omega) (.int .i64 fr.den)
  go_wp2_with fail
  exact bodyPost_ret (v := .tuple #[.agg #[.int .i64 fr.num, .int .i64 fr.den], .bool fr.ok]) (by simp [results, Tryz.results15, go_sem, z0, z1]) rfl ⟨_, _, rfl, by rw [HV.out], by rw [HV.out], kk⟩
set_option maxRecDepth 100000 in
set_option maxHeartbeats 2000000 in
theorem specBestExpected_any (A : Nat → Prop) (v cv : Value) (p : Pr) (s : Int) (qs : List (List Int)) (ws : List Int) (w : World) (hp : RPr A w v p) (hc : RCh A w cv qs ws) :
    Calls Tryz.prog 16 #[v, .int .i64 s, cv] w (Ret2 fun v0 v1 w' => v0 = .agg #[.int .i64 (bexV p s qs ws).num, .int .i64 (bexV p s qs ws).den] ∧ v1 = .bool (bexV p s qs ws).ok ∧ Chg No w w') := by
  have hv := hp
  have hcv := hc
  obtain ⟨mv, sv', rfl, hm, hsv⟩ := hp
  obtain ⟨wv, qv, rfl, hw, hq⟩ := hc
  obtain ⟨ma, mc, rfl⟩ := hm.shape
  obtain ⟨sa, sc, rfl⟩ := hsv.shape
  obtain ⟨qa, qc, rfl⟩ := hq.shape
  obtain ⟨wa, wc, rfl, _⟩ := id hw
  cases hd : drawB p s qs ws
  · have HV : Hid (bexV p s qs ws = ⟨0, 0, false⟩) := Lib.hid (by unfold bexV; rw [hd]; rfl)
    have HD := Lib.hid hd
    clear hd
    go_enter Tryz.func16, Tryz.ntmps16
    go_wp2_with fail
    refine bx3 (R := fun W => Calls _ _ _ W _) (fun W0 k0 b0 b1 b2 => ?_)
    refine (l11Start_any _ _ _ p s qs ws W0 (hv.keep k0) (hcv.keep k0)).mono ?_
    rintro e w1 ⟨_, rfl, rfl, k1⟩
    rw [HD.out]
    have kk := k0.keep k1
    have b2 := b2.keep k1
    have g0 := b2.c 0 _ rfl
    have g1 := b2.c 1 _ rfl
    have f0 := b2.fr 0
    have f1 := b2.fr 1
    have hsz := b2.lt
    obtain ⟨S2, hS2⟩ : ∃ S2, w.heap.size + 1 + 1 = S2 := ⟨_, rfl⟩
    rw [hS2] at b2 g0 g1 f0 f1 hsz ⊢
    have b3 := (b2.set (i := 0) (by simp) (.int .i64 0)).set (i := 1) (by simp) (.int .i64 0)
    have z0 := b3.c 0 _ rfl
    have z1 := b3.c 1 _ rfl
    have kk := (kk.setCell (p := ⟨S2, 0, none⟩) (fun h => by simp at h; omega) (.int .i64 0)).setCell (p := ⟨S2, 1, none⟩) (fun h => by simp at h; omega) (.int .i64 0)
    go_wp2_with fail
    exact bodyPost_ret (v := .tuple #[.agg #[.int .i64 0, .int .i64 0], .bool false]) (by simp [results, Tryz.results16, go_sem, z0, z1]) rfl ⟨_, _, rfl, by rw [HV.out], by rw [HV.out], kk⟩
  obtain ⟨hpp, hcc, hs0, hs1⟩ := drawB_facts hd
  have g := Gd.of hpp hcc
  have hl6 := g.l6
  have hb := ch_bound hcc
  have hsu := ch_sum hcc
  obtain ⟨S, rfl⟩ : ∃ S : Nat, s = (S : Int) := ⟨s.toNat, by omega⟩
  have HV : Hid (bexV p (S : Int) qs ws = mkFr (ahead p (qs.zip ws) (qs.getD 0 []).length S []) (sumW ws)) := Lib.hid (by unfold bexV; rw [hd, Int.toNat_natCast]; rfl)
  have hah := g.ah (n := (qs.getD 0 []).length) (s := S) (by omega) (by omega) []
  have HA := Lib.hid ((sAll g (qs.getD 0 []).length).1)
  have HD := Lib.hid hd
  obtain ⟨L, hL⟩ : ∃ L, (qs.getD 0 []).length = L := ⟨_, rfl⟩
  rw [hL] at HV hah HA hl6
  obtain ⟨u, hu⟩ : ∃ u, ahead p (qs.zip ws) L S [] = u := ⟨_, rfl⟩
  obtain ⟨t, ht⟩ : ∃ t, sumW ws = t := ⟨_, rfl⟩
  rw [hu, ht] at HV
  rw [hu] at hah
  rw [ht] at hsu
  have HU := Lib.hid hu
  have HT := Lib.hid ht
  have HB := Lib.hid hb
  clear hd hu ht hb hL
  go_enter Tryz.func16, Tryz.ntmps16
  go_wp2_with fail
  refine bx3 (R := fun W => Calls _ _ _ W _) (fun W0 k0 b0 b1 b2 => ?_)
  refine (l11Start_any _ _ _ p (S : Int) qs ws W0 (hv.keep k0) (hcv.keep k0)).mono ?_
  rintro e w1 ⟨_, rfl, rfl, k1⟩
  rw [HD.out]
  have kk := k0.keep k1
  replace b0 := b0.keep k1
  replace b1 := b1.keep k1
  replace b2 := b2.keep k1
  obtain ⟨S2, hS2⟩ : ∃ S2, w.heap.size + 1 + 1 = S2 := ⟨_, rfl⟩
  rw [hS2] at b2 ⊢
  go_wp2_with fail
  refine wp_region_K (S := fun W => (W.cell? ⟨w.heap.size, 0, none⟩ = some (.slice ma p.mv.length mc) ∧ W.cell? ⟨w.heap.size, 1, none⟩ = some (.slice sa p.sv.length sc)) ∧ W.cell? ⟨w.heap.size + 1, 0, none⟩ = some (.slice wa ws.length wc) ∧ W.cell? ⟨w.heap.size + 1, 1, none⟩ = some (.slice qa qs.length qc)) (k := 8) (by kernel_rfl) ?_
  replace kk := kk.keep (drewN0 _)
  replace b0 := b0.keep (drewN0 _)
  replace b1 := b1.keep (drewN0 _)
  replace b2 := b2.keep (drewN0 _)
  generalize w1.drew = W2 at kk b0 b1 b2 ⊢
  have SF : ∀ W, Chg No W2 W → (W.cell? ⟨w.heap.size, 0, none⟩ = some (.slice ma p.mv.length mc) ∧ W.cell? ⟨w.heap.size, 1, none⟩ = some (.slice sa p.sv.length sc)) ∧ W.cell? ⟨w.heap.size + 1, 0, none⟩ = some (.slice wa ws.length wc) ∧ W.cell? ⟨w.heap.size + 1, 1, none⟩ = some (.slice qa qs.length qc) :=
    fun W k => ⟨⟨(b0.keep k).c 0 _ rfl, (b0.keep k).c 1 _ rfl⟩, (b1.keep k).c 0 _ rfl, (b1.keep k).c 1 _ rfl⟩
  have hS := SF _ (Chg.refl No W2)
  have kq := Chg.refl No W2
  refine wpAnyK_takeT 0 (.agg #[.slice ma p.mv.length mc, .slice sa p.sv.length sc]) rfl (by kernel_rfl) (fun _ _ _ h => h) hS rfl (by intro w hSw; go_simp) ?_
  simp only [List.getElem_toArray, List.getElem_cons_zero, Act.put, List.setIfInBounds_toArray, List.set_cons_zero, List.set_cons_succ]
  refine wpAnyK_take0 1 (.int .i64 (S : Int)) rfl (by kernel_rfl) (fun _ _ _ h => h) hS rfl (by intro w; go_simp) ?_
  simp only [List.getElem_toArray, List.getElem_cons_succ, List.getElem_cons_zero, Act.put, List.setIfInBounds_toArray, List.set_cons_zero, List.set_cons_succ]
  refine wpAnyK_takeT 2 (.agg #[.slice wa ws.length wc, .slice qa qs.length qc]) rfl (by kernel_rfl) (fun _ _ _ h => h) hS rfl (by intro w hSw; go_simp) ?_
  simp only [List.getElem_toArray, List.getElem_cons_succ, List.getElem_cons_zero, Act.put, List.setIfInBounds_toArray, List.set_cons_zero, List.set_cons_succ]
  refine wpAnyK_take0 5 (.pointer (some ⟨w.heap.size + 1, 0, none⟩)) rfl (by kernel_rfl) (fun _ _ _ h => h) hS rfl (by intro w; go_simp) ?_
  simp only [List.getElem_toArray, List.getElem_cons_succ, List.getElem_cons_zero, Act.put, List.setIfInBounds_toArray, List.set_cons_zero, List.set_cons_succ]
  refine wpAnyK_takeT 6 (.slice wa ws.length wc) rfl (by kernel_rfl) (fun _ _ _ h => h) hS rfl (by intro w hSw; go_simp) ?_
  simp only [List.getElem_toArray, List.getElem_cons_succ, List.getElem_cons_zero, Act.put, List.setIfInBounds_toArray, List.set_cons_zero, List.set_cons_succ]
  refine wpAnyK_1 3 (by kernel_rfl) (wpOpK' rfl rfl ?_)
  intro K hK
  unfold Oper.wp execOp
  go_simp
  have kal := (Chg.refl No W2).alloc (.cells #[] 3)
  refine hK.out _ _ (SF _ (kq.keep kal)) ?_
  clear hK K
  simp only [List.setIfInBounds_toArray]
  replace kk := kk.keep kal
  replace kq := kq.keep kal
  have hem := RI.empty A (W2.alloc (.cells #[] 3)) (some ⟨W2.heap.size, 0, none⟩) 0 (by omega) (by simp)
  obtain ⟨E2, hE2⟩ : ∃ E2, W2.heap.size = E2 := ⟨_, rfl⟩
  rw [hE2] at hem ⊢
  clear kal hE2
  generalize hWX : W2.alloc (.cells #[] 3) = WX at kk kq hem ⊢
  clear hWX
  refine wpAnyK_1 4 (by kernel_rfl) (wpOpK' rfl rfl ?_)
  intro K hK
  refine ocall (f := 52) (args := #[.agg #[.slice ma p.mv.length mc, .slice sa p.sv.length sc], .int .i64 (S : Int), .agg #[.slice wa ws.length wc, .slice qa qs.length qc], .slice (some ⟨E2, 0, none⟩) 0 0]) (by go_simp) (HA.out A A _ _ _ S [] WX (hv.keep kk) (hcv.keep kk) hem (by omega) (by simp)) (fun v3 w3 h3 => hK.out _ _ (SF w3 (kq.keep h3.2)) ?_)
  obtain ⟨rfl, k3⟩ := h3
  rw [HU.out]
  clear hK K
  simp only [List.getElem_toArray, List.getElem_cons_succ, List.getElem_cons_zero, Act.put, List.setIfInBounds_toArray, List.set_cons_zero, List.set_cons_succ]
  replace kk := kk.keep k3
  replace kq := kq.keep k3
  refine wpAnyK_1 7 (by kernel_rfl) (wpOpK' rfl rfl ?_)
  intro K hK
  refine ocall (f := 45) (args := #[.slice wa ws.length wc]) (by go_simp) ((l11Sum_any A _ ws w3 (hw.keep kk) HB.out).mono (fun e w' h => (⟨_, h.1, rfl, h.2 ▸ Chg.refl No w3⟩ : Ret (fun r w' => r = .int .i64 (sumW ws) ∧ Chg No w3 w') e w'))) (fun v4 w4 h4 => hK.out _ _ (SF w4 (kq.keep h4.2)) ?_)
  obtain ⟨rfl, k4⟩ := h4
  rw [HT.out]
  clear hK K
  simp only [List.getElem_toArray, List.getElem_cons_succ, List.getElem_cons_zero, Act.put, List.setIfInBounds_toArray, List.set_cons_zero, List.set_cons_succ]
  replace kk := kk.keep k4
  replace kq := kq.keep k4
  refine wpAnyK_1 8 (by kernel_rfl) (wpOpK' rfl rfl ?_)
  intro K hK
  refine ocall (f := 44) (args := #[.int .i64 u, .int .i64 t]) (by go_simp) (ret2_eq (l2Make_any u t w4 (by omega) (by omega) (by omega) (by omega))) (fun v5 w5 h5 => hK.out _ _ (SF w5 (kq.keep h5.2)) ?_)
  obtain ⟨rfl, k5⟩ := h5
  clear hK K
  simp only [List.getElem_toArray, List.getElem_cons_succ, List.getElem_cons_zero, Act.put, List.setIfInBounds_toArray, List.set_cons_zero, List.set_cons_succ]
  replace kk := kk.keep k5
  replace kq := kq.keep k5
  obtain ⟨fr, hfr⟩ : ∃ fr, mkFr u t = fr := ⟨_, rfl⟩
  rw [hfr] at HV ⊢
  clear hfr
  replace hS := SF _ kq
  refine wpAnyK_take0 9 (.agg #[.int .i64 fr.num, .int .i64 fr.den]) rfl (by kernel_rfl) (fun _ _ _ h => h) hS rfl (by intro w; go_simp) ?_
  simp only [List.getElem_toArray, List.getElem_cons_succ, List.getElem_cons_zero, Act.put, List.setIfInBounds_toArray, List.set_cons_zero, List.set_cons_succ]
  refine wpAnyK_take0 10 (.bool fr.ok) rfl (by kernel_rfl) (fun _ _ _ h => h) hS rfl (by intro w; go_simp) ?_
  simp only [List.getElem_toArray, List.getElem_cons_succ, List.getElem_cons_zero, Act.put, List.setIfInBounds_toArray, List.set_cons_zero, List.set_cons_succ]
  refine wpAnyK_tailL 11 rfl (by kernel_rfl) ?_
  simp only [List.drop_succ_cons, List.drop_zero]
  replace b2 := b2.keep kq
  clear SF hS kq b0 b1
  have g0 := b2.c 0 _ rfl
  have g1 := b2.c 1 _ rfl
  have f0 := b2.fr 0
  have f1 := b2.fr 1
  have b3 := (b2.set (i := 0) (by simp) (.int .i64 fr.num)).set (i := 1) (by simp) (.int .i64 fr.den)
  have z0 := b3.c 0 _ rfl
  have z1 := b3.c 1 _ rfl
  replace kk := (kk.setCell (p := ⟨S2, 0, none⟩) (fun h => by simp at h; omega) (.int .i64 fr.num)).setCell (p := ⟨S2, 1, none⟩) (fun h => by simp at h; omega) (.int .i64 fr.den)
  go_wp2_with fail
  exact bodyPost_ret (v := .tuple #[.agg #[.int .i64 fr.num, .int .i64 fr.den], .bool fr.ok]) (by simp [results, Tryz.results16, go_sem, z0, z1]) rfl ⟨_, _, rfl, by rw [HV.out], by rw [HV.out], kk⟩
end Go.Proofs.YtndhijckbponkaaGreat
