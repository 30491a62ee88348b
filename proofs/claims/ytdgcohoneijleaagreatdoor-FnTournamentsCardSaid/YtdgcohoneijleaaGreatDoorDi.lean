import Derived.Test.YtdgcohoneijleaaGreatDoorPkX22
set_option maxRecDepth 100000
namespace Go.Proofs.YtdgcohoneijleaaGreatDoor
open Go.RowKit
set_option maxHeartbeats 4000000 in
theorem step2t_any (v : Value) (t : To) (a : Int) (w : World) (h : RT No w v t) (ht : tourB t = true) (hc : (inB a 0 (t.items - 1) && decide (t.reqs.length < 60)) = true) :
  Calls Tryz.prog 62 #[v, stV 2 a 0] w (Ret2 fun v0 v1 w' => v1 = .bool true ∧ TA w.heap.size w' v0 (againT t (t.reqs ++ [a])) ∧ Chg No w w') := by
 obtain ⟨k, hk⟩ : ∃ k : Int, k = 2 := ⟨_, rfl⟩
 obtain ⟨b, hb⟩ : ∃ b : Int, b = 0 := ⟨_, rfl⟩
 rw [← hk, ← hb]
 have HSV := Lib.hid (Sv.again ht (l := t.reqs ++ [a]) (fun i hi => by have := (tour_at ht hi).1.2; rw [List.length_append]; omega))
 have HC := Lib.hid hc
 clear hc
 obtain ⟨hl1, hl2, hl3, hl4⟩ := tour_len ht
 have h0 := h
 have HT := Lib.hid ht
 obtain ⟨it, ps, rq⟩ := t
 obtain ⟨pv, qv, rfl, hps, hrq⟩ := h
 simp only at hps hrq hl1 hl2 hl3 hl4
 obtain ⟨qa, qc, rfl, _⟩ := id hrq
 obtain ⟨pa, cap, rfl, hcap, hmax, hlen, pf, mf, hl, hcl⟩ := id hps
 obtain ⟨n, hn⟩ : ∃ n, rq.length = n := ⟨_, rfl⟩
 have hW0 := boxes33 (w := w) (t := 31) (t' := 47) (t'' := 31) (x0 := .int .i64 it) (x1 := .slice pa ps.length cap) (x2 := .slice qa n qc) (y0 := .int .i64 k) (y1 := .int .i64 a) (y2 := .int .i64 b) (z0 := .int .i64 0) (z1 := .slice none 0 0) (z2 := .slice none 0 0)
  (R := fun W => Chg No w W ∧ Box3 W w.heap.size (.int .i64 it) (.slice pa ps.length cap) (.slice qa n qc) ∧ Box3 W (w.heap.size + 1) (.int .i64 k) (.int .i64 a) (.int .i64 b) ∧ Box3 W (w.heap.size + 1 + 1) (.int .i64 0) (.slice none 0 0) (.slice none 0 0)) (fun W k b0 b1 b2 => ⟨k, b0, b1, b2⟩)
 obtain ⟨kk, b0, b1, b2⟩ := hW0
 have hn0 : (0 : Int) ≤ (n : Int) := Int.natCast_nonneg _
 rw [hn] at h0 hl2 hrq ⊢
 have HN := Lib.hid hn
 obtain ⟨c0, c1, c2, _⟩ := id b0
 obtain ⟨d0, d1, d2, _⟩ := id b1
 clear hl hcl hps ht hn
 subst hk
 subst hb
 have hw1 : IntKind.i64.wrap (it - 1) = it - 1 := IntWalk.i64_in _ (by omega)
 unfold stV
 have hC := HC.out
 simp only at hC
 rw [HN.out] at hC
 simp only [Bool.and_eq_true, decide_eq_true_eq] at hC
 have HI := Lib.hid hC.1
 have hn6 : (n : Int) < 60 := by omega
 clear hC
 go_enter Tryz.func62, Tryz.ntmps62
 go_wp2_with fail
 refine (within_any _ _ _ _).mono ?_
 rintro e w1 ⟨rfl, rfl⟩
 rw [HI.out]
 go_wp2_with fail
 generalize hWW : ((w.alloc _).alloc _).alloc _ = W1
 rw [hWW] at kk b0 b1 b2
 clear c0 c1 c2 d0 d1 d2 hWW
 refine wp_region_K (S := fun W => W.cell? ⟨w.heap.size, 0, none⟩ = some (.int .i64 it) ∧ W.cell? ⟨w.heap.size, 1, none⟩ = some (.slice pa ps.length cap) ∧ W.cell? ⟨w.heap.size, 2, none⟩ = some (.slice qa n qc) ∧ W.cell? ⟨w.heap.size + 1, 1, none⟩ = some (.int .i64 a) ∧ W.cell? ⟨w.heap.size + 1, 2, none⟩ = some (.int .i64 0)) (k := 9) (by kernel_rfl) ?_
 replace kk := kk.keep (drewN0 _)
 replace b0 := b0.keep (drewN0 _)
 replace b1 := b1.keep (drewN0 _)
 replace b2 := b2.keep (drewN0 _)
 generalize W1.drew = WR at kk b0 b1 b2 ⊢
 have hS : WR.cell? ⟨w.heap.size, 0, none⟩ = some (.int .i64 it) ∧ WR.cell? ⟨w.heap.size, 1, none⟩ = some (.slice pa ps.length cap) ∧ WR.cell? ⟨w.heap.size, 2, none⟩ = some (.slice qa n qc) ∧ WR.cell? ⟨w.heap.size + 1, 1, none⟩ = some (.int .i64 a) ∧ WR.cell? ⟨w.heap.size + 1, 2, none⟩ = some (.int .i64 0) := ⟨b0.c0, b0.c1, b0.c2, b1.c1, b1.c2⟩
 refine wpAnyK_takeT 0 (.agg #[.int .i64 it, .slice pa ps.length cap, .slice qa n qc]) rfl (by kernel_rfl) (fun _ _ _ h => h) hS rfl (by intro w hSw; go_simp) ?_
 simp only [zA, zC, zD, zE, zF, zG]
 refine wpAnyK_take0 1 (.pointer (some ⟨w.heap.size, 2, none⟩)) rfl (by kernel_rfl) (fun _ _ _ h => h) hS rfl (by intro w; go_simp) ?_
 simp only [zA, zB, zC, zD, zE, zF, zG]
 refine wpAnyK_takeT 2 (.slice qa n qc) rfl (by kernel_rfl) (fun _ _ _ h => h) hS rfl (by intro w hSw; go_simp) ?_
 simp only [zA, zB, zC, zD, zE, zF, zG]
 refine wpAnyK_take0 4 (.pointer (some ⟨w.heap.size + 1, 1, none⟩)) rfl (by kernel_rfl) (fun _ _ _ h => h) hS rfl (by intro w; go_simp) ?_
 simp only [zA, zB, zC, zD, zE, zF, zG]
 refine wpAnyK_takeT 5 (.int .i64 a) rfl (by kernel_rfl) (fun _ _ _ h => h) hS rfl (by intro w hSw; go_simp) ?_
 simp only [zA, zB, zC, zD, zE, zF, zG]
 refine wpAnyK_2 3 6 (by kernel_rfl) (wpOpK' rfl rfl ?_) (wpOpK' rfl rfl ?_)
 ·skip
  intro K hK
  refine ocall (f := 90) (args := #[.slice qa n qc]) (by go_simp) (Clone_any No _ rq WR (hrq.keep kk)) (fun v1 WQ h1 => hK.out _ _ ⟨(b0.keep h1.2).c0, (b0.keep h1.2).c1, (b0.keep h1.2).c2, (b1.keep h1.2).c1, (b1.keep h1.2).c2⟩ ?_)
  obtain ⟨o1, kx⟩ := h1
  clear hK K
  try clear hS
  simp only [zA, zB, zC, zD, zE, zF, zG]
  have hb := b2.lt
  obtain ⟨za, zn, zc, rfl⟩ := o1.shape
  replace o1 := o1.weak (base' := w.heap.size + 3) (by omega)
  try replace hg := (kx.cellD g 0 (World.block_lt_of_cell? WR _ hg) (fun e => e)).trans hg
  replace kk := kk.keep kx
  replace b0 := b0.keep kx
  replace b1 := b1.keep kx
  replace b2 := b2.keep kx
  clear kx hb
  generalize WQ = WR at *
  refine wpAnyK_1 6 (by kernel_rfl) (wpOpK' rfl rfl ?_)
  intro K hK
  refine obuild (.tmp 61) a rfl rfl (fun g WQ kx hg hge => hK.out _ _ ⟨(b0.keep kx).c0, (b0.keep kx).c1, (b0.keep kx).c2, (b1.keep kx).c1, (b1.keep kx).c2⟩ ?_)
  clear hK K
  simp only [zA, zB, zC, zD, zE, zF, zG]
  try replace o1 := o1.keep kx
  replace kk := kk.keep kx
  replace b0 := b0.keep kx
  replace b1 := b1.keep kx
  replace b2 := b2.keep kx
  clear kx hge
  try clear hS
  generalize WQ = WR at *
  refine wpAnyK_1 7 (by kernel_rfl) (wpOpK' rfl rfl ?_)
  intro K hK
  have hne : ∀ q, own (.slice za zn zc) q → w.heap.size + 3 ≤ q := fun q hq => (o1.lt q hq).1
  refine oapp (.tmp 59) (.tmp 62) rfl o1 (RI.one (A := No) (n := a) hg (Nat.le_refl 1) (by omega) (fun e => e)) rfl rfl (by have := HN.out; simp; omega) (by have := b2.lt; omega) (fun v7 WQ o7 kx fx => hK.out _ _ ⟨(b0.step kx (fun e => by have := hne _ e; omega)).c0, (b0.step kx (fun e => by have := hne _ e; omega)).c1, (b0.step kx (fun e => by have := hne _ e; omega)).c2, (b1.step kx (fun e => by have := hne _ e; omega)).c1, (b1.step kx (fun e => by have := hne _ e; omega)).c2⟩ ?_)
  clear hK K
  simp only [zA, zB, zC, zD, zE, zF, zG]
  replace kk := kk.step kx (fun q e hl => by have := hne q e; omega)
  replace b0 := b0.step kx (fun e => by have := hne _ e; omega)
  replace b1 := b1.step kx (fun e => by have := hne _ e; omega)
  replace b2 := b2.step kx (fun e => by have := hne _ e; omega)
  clear kx fx o1 hne
  obtain ⟨ya, yn, yc, rfl⟩ := o7.shape
  generalize WQ = WR at *
  refine wpAnyK_1 8 (by kernel_rfl) (wpOpK' rfl rfl ?_)
  intro K hK
  refine ocall (f := 47) (args := #[.agg #[.int .i64 it, .slice pa ps.length cap, .slice qa n qc], .slice ya yn yc]) (by go_simp) (again_any _ _ ⟨it, ps, rq⟩ _ WR (h0.keep kk) o7.readNo HSV.out) (fun v3 w3 h3 => hK.out _ _ ⟨(b0.keep h3.2).c0, (b0.keep h3.2).c1, (b0.keep h3.2).c2, (b1.keep h3.2).c1, (b1.keep h3.2).c2⟩ ?_)
  obtain ⟨hTA, k3⟩ := h3
  clear hK K
  simp only [zA, zB, zC, zD, zE, zF, zG]
  refine wpAnyK_tail 9 rfl (by kernel_rfl) ?_
  simp only [List.drop_succ_cons, List.drop_zero]
  have hs0 := b2.lt
  replace b2 := b2.keep k3
  replace kk := kk.keep k3
  clear b0 b1
  obtain ⟨e0, e1, e2, cf⟩ := id b2
  have cf0 := cf 0
  have cf1 := cf 1
  have cf2 := cf 2
  clear cf
  have hb2l := b2.lt
  obtain ⟨iN, p1, p2, p3, r1, r2, r3, rfl, hTN⟩ := hTA.put3 (b := w.heap.size + 1 + 1) (by omega)
  obtain ⟨z0, z1, z2, _⟩ := ((b2.set0 (.int .i64 iN)).set1 (.slice p1 p2 p3)).set2 (.slice r1 r2 r3)
  have HK := Lib.hid (kk.put3 (b := w.heap.size + 1 + 1) (fun h => by omega) (.int .i64 iN) (.slice p1 p2 p3) (.slice r1 r2 r3))
  have HTN := Lib.hid (hTN.weak (base' := w.heap.size) (by omega))
  clear hTA hTN kk b2
  go_wp2_with fail
  exact bodyPost_ret (v := .tuple #[.agg #[.int .i64 iN, .slice p1 p2 p3, .slice r1 r2 r3], .bool true]) (by simp [results, Tryz.results62, go_sem, z0, z1, z2]) rfl ⟨_, _, rfl, rfl, HTN.out, HK.out⟩
 ·skip
  intro K hK
  refine obuild (.tmp 61) a rfl rfl (fun g WQ kx hg hge => hK.out _ _ ⟨(b0.keep kx).c0, (b0.keep kx).c1, (b0.keep kx).c2, (b1.keep kx).c1, (b1.keep kx).c2⟩ ?_)
  clear hK K
  simp only [zA, zB, zC, zD, zE, zF, zG]
  try replace o1 := o1.keep kx
  replace kk := kk.keep kx
  replace b0 := b0.keep kx
  replace b1 := b1.keep kx
  replace b2 := b2.keep kx
  clear kx hge
  try clear hS
  generalize WQ = WR at *
  refine wpAnyK_1 3 (by kernel_rfl) (wpOpK' rfl rfl ?_)
  intro K hK
  refine ocall (f := 90) (args := #[.slice qa n qc]) (by go_simp) (Clone_any No _ rq WR (hrq.keep kk)) (fun v1 WQ h1 => hK.out _ _ ⟨(b0.keep h1.2).c0, (b0.keep h1.2).c1, (b0.keep h1.2).c2, (b1.keep h1.2).c1, (b1.keep h1.2).c2⟩ ?_)
  obtain ⟨o1, kx⟩ := h1
  clear hK K
  try clear hS
  simp only [zA, zB, zC, zD, zE, zF, zG]
  have hb := b2.lt
  obtain ⟨za, zn, zc, rfl⟩ := o1.shape
  replace o1 := o1.weak (base' := w.heap.size + 3) (by omega)
  try replace hg := (kx.cellD g 0 (World.block_lt_of_cell? WR _ hg) (fun e => e)).trans hg
  replace kk := kk.keep kx
  replace b0 := b0.keep kx
  replace b1 := b1.keep kx
  replace b2 := b2.keep kx
  clear kx hb
  generalize WQ = WR at *
  refine wpAnyK_1 7 (by kernel_rfl) (wpOpK' rfl rfl ?_)
  intro K hK
  have hne : ∀ q, own (.slice za zn zc) q → w.heap.size + 3 ≤ q := fun q hq => (o1.lt q hq).1
  refine oapp (.tmp 59) (.tmp 62) rfl o1 (RI.one (A := No) (n := a) hg (Nat.le_refl 1) (by omega) (fun e => e)) rfl rfl (by have := HN.out; simp; omega) (by have := b2.lt; omega) (fun v7 WQ o7 kx fx => hK.out _ _ ⟨(b0.step kx (fun e => by have := hne _ e; omega)).c0, (b0.step kx (fun e => by have := hne _ e; omega)).c1, (b0.step kx (fun e => by have := hne _ e; omega)).c2, (b1.step kx (fun e => by have := hne _ e; omega)).c1, (b1.step kx (fun e => by have := hne _ e; omega)).c2⟩ ?_)
  clear hK K
  simp only [zA, zB, zC, zD, zE, zF, zG]
  replace kk := kk.step kx (fun q e hl => by have := hne q e; omega)
  replace b0 := b0.step kx (fun e => by have := hne _ e; omega)
  replace b1 := b1.step kx (fun e => by have := hne _ e; omega)
  replace b2 := b2.step kx (fun e => by have := hne _ e; omega)
  clear kx fx o1 hne
  obtain ⟨ya, yn, yc, rfl⟩ := o7.shape
  generalize WQ = WR at *
  refine wpAnyK_1 8 (by kernel_rfl) (wpOpK' rfl rfl ?_)
  intro K hK
  refine ocall (f := 47) (args := #[.agg #[.int .i64 it, .slice pa ps.length cap, .slice qa n qc], .slice ya yn yc]) (by go_simp) (again_any _ _ ⟨it, ps, rq⟩ _ WR (h0.keep kk) o7.readNo HSV.out) (fun v3 w3 h3 => hK.out _ _ ⟨(b0.keep h3.2).c0, (b0.keep h3.2).c1, (b0.keep h3.2).c2, (b1.keep h3.2).c1, (b1.keep h3.2).c2⟩ ?_)
  obtain ⟨hTA, k3⟩ := h3
  clear hK K
  simp only [zA, zB, zC, zD, zE, zF, zG]
  refine wpAnyK_tail 9 rfl (by kernel_rfl) ?_
  simp only [List.drop_succ_cons, List.drop_zero]
  have hs0 := b2.lt
  replace b2 := b2.keep k3
  replace kk := kk.keep k3
  clear b0 b1
  obtain ⟨e0, e1, e2, cf⟩ := id b2
  have cf0 := cf 0
  have cf1 := cf 1
  have cf2 := cf 2
  clear cf
  have hb2l := b2.lt
  obtain ⟨iN, p1, p2, p3, r1, r2, r3, rfl, hTN⟩ := hTA.put3 (b := w.heap.size + 1 + 1) (by omega)
  obtain ⟨z0, z1, z2, _⟩ := ((b2.set0 (.int .i64 iN)).set1 (.slice p1 p2 p3)).set2 (.slice r1 r2 r3)
  have HK := Lib.hid (kk.put3 (b := w.heap.size + 1 + 1) (fun h => by omega) (.int .i64 iN) (.slice p1 p2 p3) (.slice r1 r2 r3))
  have HTN := Lib.hid (hTN.weak (base' := w.heap.size) (by omega))
  clear hTA hTN kk b2
  go_wp2_with fail
  exact bodyPost_ret (v := .tuple #[.agg #[.int .i64 iN, .slice p1 p2 p3, .slice r1 r2 r3], .bool true]) (by simp [results, Tryz.results62, go_sem, z0, z1, z2]) rfl ⟨_, _, rfl, rfl, HTN.out, HK.out⟩
theorem obuildS2 {o : Oper} {a : Act} {K : Act → World → Prop} {Q : Exit → Act → World → Prop} {w : World} (y y' : Operand) (xa xa' : Option Addr) (xn xc xn' xc' : Nat)
  (ho : o.op = .buildSlice 145 2 #[(0, y), (1, y')]) (hy : a.eval y = .slice xa xn xc) (hy' : a.eval y' = .slice xa' xn' xc')
  (h : ∀ g w', Chg No w w' → RF No w' (.slice (some ⟨g, 0, none⟩) 2 2) 1 2 [.slice xa xn xc, .slice xa' xn' xc'] → K (a.put o.dst (.slice (some ⟨g, 0, none⟩) 2 2)) w') :
  Oper.wp Tryz.prog o a w K Q := by
 have h1 := h w.heap.size (w.alloc (.cells #[.slice xa xn xc, .slice xa' xn' xc'] 23)) ((Chg.refl No w).alloc _)
  ⟨_, _, rfl, Nat.le_refl _, by omega, by simp, by simp, fun _ => ⟨w.heap.size, 0, rfl, fun e => e, by simp, fun i hi => by
   have : i = 0 ∨ i = 1 := by simp at hi; omega
   rcases this with rfl | rfl <;> (rw [World.cell?_alloc_new]; rfl)⟩⟩
 unfold Oper.wp execOp
 simp only [ho, List.map_toArray, List.map_cons, List.map_nil, hy, hy']
 go_simp
 exact h1
set_option maxHeartbeats 4000000 in
theorem step5t_any (v : Value) (t : To) (a : Int) (w : World) (h : RT No w v t) (ht : tourB t = true) (ha : 1 ≤ a ∧ a ≤ t.reqs.length) (ha2 : (t.reqs.length : Int) + a ≤ 60) :
  Calls Tryz.prog 62 #[v, stV 5 a 0] w (Ret2 fun v0 v1 w' => v1 = .bool true ∧ TA w.heap.size w' v0 (againT t (t.reqs ++ t.reqs.drop (t.reqs.length - a.toNat))) ∧ Chg No w w') := by
 obtain ⟨k, hk⟩ : ∃ k : Int, k = 5 := ⟨_, rfl⟩
 obtain ⟨b, hb⟩ : ∃ b : Int, b = 0 := ⟨_, rfl⟩
 rw [← hk, ← hb]
 have HSV := Lib.hid (Sv.again ht (l := t.reqs ++ t.reqs.drop (t.reqs.length - a.toNat)) (fun i hi => by have := (tour_at ht hi).1.2; rw [List.length_append]; omega))
 obtain ⟨hl1, hl2, hl3, hl4⟩ := tour_len ht
 have h0 := h
 have HT := Lib.hid ht
 obtain ⟨it, ps, rq⟩ := t
 obtain ⟨pv, qv, rfl, hps, hrq⟩ := h
 simp only at hps hrq hl1 hl2 hl3 hl4
 obtain ⟨qa, qc, rfl, _⟩ := id hrq
 obtain ⟨pa, cap, rfl, hcap, hmax, hlen, pf, mf, hl, hcl⟩ := id hps
 obtain ⟨n, hn⟩ : ∃ n, rq.length = n := ⟨_, rfl⟩
 have hW0 := boxes33 (w := w) (t := 31) (t' := 47) (t'' := 31) (x0 := .int .i64 it) (x1 := .slice pa ps.length cap) (x2 := .slice qa n qc) (y0 := .int .i64 k) (y1 := .int .i64 a) (y2 := .int .i64 b) (z0 := .int .i64 0) (z1 := .slice none 0 0) (z2 := .slice none 0 0)
  (R := fun W => Chg No w W ∧ Box3 W w.heap.size (.int .i64 it) (.slice pa ps.length cap) (.slice qa n qc) ∧ Box3 W (w.heap.size + 1) (.int .i64 k) (.int .i64 a) (.int .i64 b) ∧ Box3 W (w.heap.size + 1 + 1) (.int .i64 0) (.slice none 0 0) (.slice none 0 0)) (fun W k b0 b1 b2 => ⟨k, b0, b1, b2⟩)
 obtain ⟨kk, b0, b1, b2⟩ := hW0
 have hn0 : (0 : Int) ≤ (n : Int) := Int.natCast_nonneg _
 rw [hn] at h0 hl2 hrq ⊢
 have HN := Lib.hid hn
 obtain ⟨c0, c1, c2, _⟩ := id b0
 obtain ⟨d0, d1, d2, _⟩ := id b1
 clear hl hcl hps ht hn
 subst hk
 subst hb
 simp only at ha ha2 HSV
 rw [HN.out] at ha ha2 HSV
 have HI : Hid (inB a 1 n = true) := Lib.hid (inB_iff.2 ha)
 have hrq2 : RI No w (.slice qa rq.length qc) rq := by rw [HN.out]; exact hrq
 obtain ⟨x, hx, hrx⟩ := hrq2.from (n - a.toNat) ((n : Int) - a) (by omega) (by rw [HN.out]; omega)
 rw [HN.out] at hx
 obtain ⟨xa, xn, xc, rfl⟩ := hrx.shape
 have hw1 : IntKind.i64.wrap ((n : Int) - a) = (n : Int) - a := IntWalk.i64_in _ (by omega)
 have hw2 : IntKind.i64.wrap ((n : Int) + a) = (n : Int) + a := IntWalk.i64_in _ (by omega)
 have HA := Lib.hid ha
 clear ha hrq2
 unfold stV
 go_enter Tryz.func62, Tryz.ntmps62
 go_wp2_with fail
 refine (within_any _ _ _ _).mono ?_
 rintro e w1 ⟨rfl, rfl⟩
 rw [HI.out]
 go_wp2_with fail
 generalize hWW : ((w.alloc _).alloc _).alloc _ = W1
 rw [hWW] at kk b0 b1 b2
 clear c0 c1 c2 d0 d1 d2 hWW
 refine wp_region_K (S := fun W => W.cell? ⟨w.heap.size, 0, none⟩ = some (.int .i64 it) ∧ W.cell? ⟨w.heap.size, 1, none⟩ = some (.slice pa ps.length cap) ∧ W.cell? ⟨w.heap.size, 2, none⟩ = some (.slice qa n qc) ∧ W.cell? ⟨w.heap.size + 1, 1, none⟩ = some (.int .i64 a) ∧ W.cell? ⟨w.heap.size + 1, 2, none⟩ = some (.int .i64 0)) (k := 13) (by kernel_rfl) ?_
 replace kk := kk.keep (drewN0 _)
 replace b0 := b0.keep (drewN0 _)
 replace b1 := b1.keep (drewN0 _)
 replace b2 := b2.keep (drewN0 _)
 generalize W1.drew = WR at kk b0 b1 b2 ⊢
 have hS : WR.cell? ⟨w.heap.size, 0, none⟩ = some (.int .i64 it) ∧ WR.cell? ⟨w.heap.size, 1, none⟩ = some (.slice pa ps.length cap) ∧ WR.cell? ⟨w.heap.size, 2, none⟩ = some (.slice qa n qc) ∧ WR.cell? ⟨w.heap.size + 1, 1, none⟩ = some (.int .i64 a) ∧ WR.cell? ⟨w.heap.size + 1, 2, none⟩ = some (.int .i64 0) := ⟨b0.c0, b0.c1, b0.c2, b1.c1, b1.c2⟩
 refine wpAnyK_takeT 0 (.agg #[.int .i64 it, .slice pa ps.length cap, .slice qa n qc]) rfl (by kernel_rfl) (fun _ _ _ h => h) hS rfl (by intro w hSw; go_simp) ?_
 simp only [zA, zC, zD, zE, zF, zG]
 refine wpAnyK_take0 1 (.pointer (some ⟨w.heap.size, 2, none⟩)) rfl (by kernel_rfl) (fun _ _ _ h => h) hS rfl (by intro w; go_simp) ?_
 simp only [zA, zB, zC, zD, zE, zF, zG]
 refine wpAnyK_takeT 2 (.slice qa n qc) rfl (by kernel_rfl) (fun _ _ _ h => h) hS rfl (by intro w hSw; go_simp) ?_
 simp only [zA, zB, zC, zD, zE, zF, zG]
 refine wpAnyK_take0 3 (.pointer (some ⟨w.heap.size, 2, none⟩)) rfl (by kernel_rfl) (fun _ _ _ h => h) hS rfl (by intro w; go_simp) ?_
 simp only [zA, zB, zC, zD, zE, zF, zG]
 refine wpAnyK_takeT 4 (.slice qa n qc) rfl (by kernel_rfl) (fun _ _ _ h => h) hS rfl (by intro w hSw; go_simp) ?_
 simp only [zA, zB, zC, zD, zE, zF, zG]
 refine wpAnyK_take0 5 (.int .i64 (n : Int)) rfl (by kernel_rfl) (fun _ _ _ h => h) hS rfl (by intro w; go_simp) ?_
 simp only [zA, zB, zC, zD, zE, zF, zG]
 refine wpAnyK_take0 6 (.pointer (some ⟨w.heap.size + 1, 1, none⟩)) rfl (by kernel_rfl) (fun _ _ _ h => h) hS rfl (by intro w; go_simp) ?_
 simp only [zA, zB, zC, zD, zE, zF, zG]
 refine wpAnyK_takeT 7 (.int .i64 a) rfl (by kernel_rfl) (fun _ _ _ h => h) hS rfl (by intro w hSw; go_simp) ?_
 simp only [zA, zB, zC, zD, zE, zF, zG]
 refine wpAnyK_take0 8 (.int .i64 ((n : Int) - a)) rfl (by kernel_rfl) (fun _ _ _ h => h) hS rfl (by intro w; go_simp) ?_
 simp only [zA, zB, zC, zD, zE, zF, zG]
 refine wpAnyK_take0 9 (.slice xa xn xc) rfl (by kernel_rfl) (fun _ _ _ h => h) hS rfl (by intro w; go_simp) ?_
 simp only [zA, zB, zC, zD, zE, zF, zG]
 refine wpAnyK_1 10 (by kernel_rfl) (wpOpK' rfl rfl ?_)
 intro K hK
 refine obuildS2 (.tmp 108) (.tmp 115) qa xa n qc xn xc rfl rfl rfl (fun g WQ kx hg => hK.out _ _ ⟨(b0.keep kx).c0, (b0.keep kx).c1, (b0.keep kx).c2, (b1.keep kx).c1, (b1.keep kx).c2⟩ ?_)
 clear hK K hS
 simp only [zA, zB, zC, zD, zE, zF, zG]
 replace kk := kk.keep kx
 replace b0 := b0.keep kx
 replace b1 := b1.keep kx
 replace b2 := b2.keep kx
 clear kx
 generalize WQ = WR at *
 have hRII : RII No WR (.slice (some ⟨g, 0, none⟩) 2 2) [rq, rq.drop (n - a.toNat)] := ⟨by simp, _, by simp, hg, fun i hi => by
  have : i = 0 ∨ i = 1 := by simp at hi; omega
  rcases this with rfl | rfl
  ·exact hrq.keep kk
  ·exact hrx.keep kk⟩
 refine wpAnyK_1 11 (by kernel_rfl) (wpOpK' rfl rfl ?_)
 intro K hK
 refine ocall (f := 108) (args := #[.slice (some ⟨g, 0, none⟩) 2 2]) (by go_simp) (Concat_any _ _ WR hRII (by have := HN.out; simp [tot]; omega) (by simp)) (fun v1 WQ h1 => hK.out _ _ ⟨(b0.keep h1.2).c0, (b0.keep h1.2).c1, (b0.keep h1.2).c2, (b1.keep h1.2).c1, (b1.keep h1.2).c2⟩ ?_)
 obtain ⟨o1, kx⟩ := h1
 clear hK K hRII hg
 simp only [zA, zB, zC, zD, zE, zF, zG]
 obtain ⟨ya, yn, yc, rfl⟩ := o1.shape
 replace kk := kk.keep kx
 replace b0 := b0.keep kx
 replace b1 := b1.keep kx
 replace b2 := b2.keep kx
 clear kx
 generalize WQ = WR at *
 have o1' : RI No WR (.slice ya yn yc) (rq ++ rq.drop (n - a.toNat)) := by have := o1.readNo; simp only [List.flatten_cons, List.flatten_nil, List.append_nil] at this; exact this
 refine wpAnyK_1 12 (by kernel_rfl) (wpOpK' rfl rfl ?_)
 intro K hK
 refine ocall (f := 47) (args := #[.agg #[.int .i64 it, .slice pa ps.length cap, .slice qa n qc], .slice ya yn yc]) (by go_simp) (again_any _ _ ⟨it, ps, rq⟩ _ WR (h0.keep kk) o1' HSV.out) (fun v3 w3 h3 => hK.out _ _ ⟨(b0.keep h3.2).c0, (b0.keep h3.2).c1, (b0.keep h3.2).c2, (b1.keep h3.2).c1, (b1.keep h3.2).c2⟩ ?_)
 obtain ⟨hTA, k3⟩ := h3
 clear o1 o1'
 clear hK K
 simp only [zA, zB, zC, zD, zE, zF, zG]
 refine wpAnyK_tail 13 rfl (by kernel_rfl) ?_
 simp only [List.drop_succ_cons, List.drop_zero]
 have hs0 := b2.lt
 replace b2 := b2.keep k3
 replace kk := kk.keep k3
 clear b0 b1
 obtain ⟨e0, e1, e2, cf⟩ := id b2
 have cf0 := cf 0
 have cf1 := cf 1
 have cf2 := cf 2
 clear cf
 have hb2l := b2.lt
 obtain ⟨iN, p1, p2, p3, r1, r2, r3, rfl, hTN⟩ := hTA.put3 (b := w.heap.size + 1 + 1) (by omega)
 obtain ⟨z0, z1, z2, _⟩ := ((b2.set0 (.int .i64 iN)).set1 (.slice p1 p2 p3)).set2 (.slice r1 r2 r3)
 have HK := Lib.hid (kk.put3 (b := w.heap.size + 1 + 1) (fun h => by omega) (.int .i64 iN) (.slice p1 p2 p3) (.slice r1 r2 r3))
 have HTN := Lib.hid (hTN.weak (base' := w.heap.size) (by omega))
 clear hTA hTN kk b2
 go_wp2_with fail
 exact bodyPost_ret (v := .tuple #[.agg #[.int .i64 iN, .slice p1 p2 p3, .slice r1 r2 r3], .bool true]) (by simp [results, Tryz.results62, go_sem, z0, z1, z2]) rfl ⟨_, _, rfl, rfl, HTN.out, HK.out⟩
end Go.Proofs.YtdgcohoneijleaaGreatDoor
