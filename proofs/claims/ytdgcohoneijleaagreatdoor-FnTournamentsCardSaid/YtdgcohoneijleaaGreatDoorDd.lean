import Derived.Test.YtdgcohoneijleaaGreatDoorPkX21
import Derived.Test.YtdgcohoneijleaaGreatDoorPkX20
set_option maxRecDepth 100000
namespace Go.Proofs.YtdgcohoneijleaaGreatDoor
open Go.RowKit
theorem TA.put3 {base : Nat} {w : World} {v : Value} {t : To} (h : TA base w v t) {b : Nat} (hb : b < base) : ∃ it pa pn pc ra rn rc, v = .agg #[.int .i64 it, .slice pa pn pc, .slice ra rn rc] ∧
  TA base (((w.setCell ⟨b, 0, none⟩ (.int .i64 it)).setCell ⟨b, 1, none⟩ (.slice pa pn pc)).setCell ⟨b, 2, none⟩ (.slice ra rn rc)) v t := by
 obtain ⟨pv, pf, mf, rv, rfl, h2, h3, h4⟩ := h
 obtain ⟨pa, pc, rfl, _⟩ := h2.os.view
 obtain ⟨ra, rn, rc, rfl⟩ := h3.shape
 have ch : Chg (fun q => q = b) w (((w.setCell ⟨b, 0, none⟩ (.int .i64 t.items)).setCell ⟨b, 1, none⟩ (.slice pa t.ps.length pc)).setCell ⟨b, 2, none⟩ (.slice ra rn rc)) :=
  (((Chg.refl (fun q => q = b) w).setCell (p := ⟨b, 0, none⟩) (fun _ => rfl) _).setCell (p := ⟨b, 1, none⟩) (fun _ => rfl) _).setCell (p := ⟨b, 2, none⟩) (fun _ => rfl) _
 exact ⟨_, _, _, _, _, _, _, rfl, _, _, _, _, rfl, h2.step ch (fun q hq e => by have := (h2.inF q hq).1; omega), h3.step ch (fun q hq e => by have := (h3.lt q hq).1; omega), h4⟩
theorem Chg.put3 {S : Nat → Prop} {w0 w : World} (h : Chg S w0 w) {b : Nat} (hb : b < w0.heap.size → S b) (x0 x1 x2 : Value) : Chg S w0 (((w.setCell ⟨b, 0, none⟩ x0).setCell ⟨b, 1, none⟩ x1).setCell ⟨b, 2, none⟩ x2) :=
 ((h.setCell (p := ⟨b, 0, none⟩) hb x0).setCell (p := ⟨b, 1, none⟩) hb x1).setCell (p := ⟨b, 2, none⟩) hb x2
set_option maxHeartbeats 4000000 in
theorem l12Make1_any (v : Value) (t : To) (a b : Int) (w : World) (h : RT No w v t) (ht : tourB t = true) :
  Calls Tryz.prog 64 #[v, stV 1 a b] w (Ret fun r w' => TA w.heap.size w' r (joinT t a b) ∧ Chg No w w') := by
 obtain ⟨k, hk⟩ : ∃ k : Int, k = 1 := ⟨_, rfl⟩
 rw [← hk]
 obtain ⟨hl1, hl2, hl3, hl4⟩ := tour_len ht
 have h0 := h
 have HT := Lib.hid ht
 obtain ⟨it, ps, rq⟩ := t
 obtain ⟨pv, qv, rfl, hps, hrq⟩ := h
 simp only at hps hrq hl1 hl2 hl3 hl4
 obtain ⟨qa, qc, rfl, _⟩ := id hrq
 obtain ⟨pa, cap, rfl, hcap, hmax, hlen, pf, mf, hl, hcl⟩ := id hps
 obtain ⟨n, hn⟩ : ∃ n, rq.length = n := ⟨_, rfl⟩
 have hW0 := boxes33 (w := w) (t := 31) (t' := 47) (t'' := 31) (x0 := .int .i64 it) (x1 := .slice pa ps.length cap) (x2 := .slice qa n qc) (y0 := .int .i64 k) (y1 := .int .i64 a) (y2 := .int .i64 b) (z0 := .int .i64 0) (z1 := .slice none 0 0) (z2 := .slice none 0 0)
  (R := fun W => Chg No w W ∧ Box3 W w.heap.size (.int .i64 it) (.slice pa ps.length cap) (.slice qa n qc) ∧ Box3 W (w.heap.size + 1) (.int .i64 k) (.int .i64 a) (.int .i64 b) ∧ Box3 W (w.heap.size + 1 + 1) (.int .i64 0) (.slice none 0 0) (.slice none 0 0)) (fun W k b0 b1 b2 => ⟨k, b0, b1, b2⟩)
 obtain ⟨kk, b0, b1, b2⟩ := hW0
 have hn0 : (0 : Int) ≤ (n : Int) := Int.natCast_nonneg _
 rw [hn] at h0 hl2 hrq ⊢
 have HN := Lib.hid hn
 obtain ⟨c0, c1, c2, _⟩ := id b0
 obtain ⟨d0, d1, d2, _⟩ := id b1
 clear hl hcl hps ht hn
 subst hk
 unfold stV
 have HSV := Lib.hid (sv_of HT.out)
 go_enter Tryz.func64, Tryz.ntmps64
 go_wp2_with fail
 refine (l12Join_any _ _ a b _ (h0.keep kk) HSV.out).mono ?_
 rintro e w3 ⟨v3, rfl, hTA, k3⟩
 clear c0 c1 c2 d0 d1 d2
 have hs0 := b2.lt
 replace b2 := b2.keep k3
 replace kk := kk.keep k3
 obtain ⟨e0, e1, e2, cf⟩ := id b2
 have cf0 := cf 0
 have cf1 := cf 1
 have cf2 := cf 2
 clear cf
 have hb2l := b2.lt
 obtain ⟨iN, p1, p2, p3, r1, r2, r3, rfl, hTN⟩ := hTA.put3 (b := w.heap.size + 1 + 1) (by omega)
 obtain ⟨z0, z1, z2, _⟩ := ((b2.set0 (.int .i64 iN)).set1 (.slice p1 p2 p3)).set2 (.slice r1 r2 r3)
 have HK := Lib.hid (kk.put3 (b := w.heap.size + 1 + 1) (fun h => by omega) (.int .i64 iN) (.slice p1 p2 p3) (.slice r1 r2 r3))
 have HTN := Lib.hid (hTN.weak (base' := w.heap.size) (by omega))
 clear hTA hTN kk b2
 go_wp2_with fail
 exact bodyPost_ret (v := .agg #[.int .i64 iN, .slice p1 p2 p3, .slice r1 r2 r3]) (by simp [results, Tryz.results64, go_sem, z0, z1, z2]) rfl ⟨_, rfl, HTN.out, HK.out⟩
set_option maxHeartbeats 4000000 in
theorem l12Make3_any (v : Value) (t : To) (a b : Int) (w : World) (h : RT No w v t) (ht : tourB t = true) (ha : hasP t a = true) :
  Calls Tryz.prog 64 #[v, stV 3 a b] w (Ret fun r w' => TA w.heap.size w' r (leaveT t a) ∧ Chg No w w') := by
 have hik := inB_iff.1 ha
 obtain ⟨x, rfl⟩ : ∃ x : Nat, a = (x : Int) := ⟨a.toNat, by omega⟩
 have hx : x < t.ps.length := by omega
 obtain ⟨a, hax⟩ : ∃ a : Int, a = (x : Int) := ⟨_, rfl⟩
 rw [← hax]
 have HXX := Lib.hid hx
 clear hik ha hx
 obtain ⟨k, hk⟩ : ∃ k : Int, k = 3 := ⟨_, rfl⟩
 rw [← hk]
 obtain ⟨hl1, hl2, hl3, hl4⟩ := tour_len ht
 have h0 := h
 have HT := Lib.hid ht
 obtain ⟨it, ps, rq⟩ := t
 obtain ⟨pv, qv, rfl, hps, hrq⟩ := h
 simp only at hps hrq hl1 hl2 hl3 hl4
 obtain ⟨qa, qc, rfl, _⟩ := id hrq
 obtain ⟨pa, cap, rfl, hcap, hmax, hlen, pf, mf, hl, hcl⟩ := id hps
 obtain ⟨n, hn⟩ : ∃ n, rq.length = n := ⟨_, rfl⟩
 have hW0 := boxes33 (w := w) (t := 31) (t' := 47) (t'' := 31) (x0 := .int .i64 it) (x1 := .slice pa ps.length cap) (x2 := .slice qa n qc) (y0 := .int .i64 k) (y1 := .int .i64 a) (y2 := .int .i64 b) (z0 := .int .i64 0) (z1 := .slice none 0 0) (z2 := .slice none 0 0)
  (R := fun W => Chg No w W ∧ Box3 W w.heap.size (.int .i64 it) (.slice pa ps.length cap) (.slice qa n qc) ∧ Box3 W (w.heap.size + 1) (.int .i64 k) (.int .i64 a) (.int .i64 b) ∧ Box3 W (w.heap.size + 1 + 1) (.int .i64 0) (.slice none 0 0) (.slice none 0 0)) (fun W k b0 b1 b2 => ⟨k, b0, b1, b2⟩)
 obtain ⟨kk, b0, b1, b2⟩ := hW0
 have hn0 : (0 : Int) ≤ (n : Int) := Int.natCast_nonneg _
 rw [hn] at h0 hl2 hrq ⊢
 have HN := Lib.hid hn
 obtain ⟨c0, c1, c2, _⟩ := id b0
 obtain ⟨d0, d1, d2, _⟩ := id b1
 clear hl hcl hps ht hn
 subst hk
 unfold stV
 subst hax
 go_enter Tryz.func64, Tryz.ntmps64
 go_wp2_with fail
 refine (l12Leave_any _ _ x _ (h0.keep kk) HT.out HXX.out).mono ?_
 rintro e w3 ⟨v3, rfl, hTA, k3⟩
 clear c0 c1 c2 d0 d1 d2
 have hs0 := b2.lt
 replace b2 := b2.keep k3
 replace kk := kk.keep k3
 obtain ⟨e0, e1, e2, cf⟩ := id b2
 have cf0 := cf 0
 have cf1 := cf 1
 have cf2 := cf 2
 clear cf
 have hb2l := b2.lt
 obtain ⟨iN, p1, p2, p3, r1, r2, r3, rfl, hTN⟩ := hTA.put3 (b := w.heap.size + 1 + 1) (by omega)
 obtain ⟨z0, z1, z2, _⟩ := ((b2.set0 (.int .i64 iN)).set1 (.slice p1 p2 p3)).set2 (.slice r1 r2 r3)
 have HK := Lib.hid (kk.put3 (b := w.heap.size + 1 + 1) (fun h => by omega) (.int .i64 iN) (.slice p1 p2 p3) (.slice r1 r2 r3))
 have HTN := Lib.hid (hTN.weak (base' := w.heap.size) (by omega))
 clear hTA hTN kk b2
 go_wp2_with fail
 exact bodyPost_ret (v := .agg #[.int .i64 iN, .slice p1 p2 p3, .slice r1 r2 r3]) (by simp [results, Tryz.results64, go_sem, z0, z1, z2]) rfl ⟨_, rfl, HTN.out, HK.out⟩
set_option maxHeartbeats 4000000 in
theorem l12Make7_any (v : Value) (t : To) (k a b : Int) (w : World) (h : RT No w v t) (ht : tourB t = true) (e1 : ¬ k = 1) (e2 : ¬ k = 2) (e3 : ¬ k = 3) (e4 : ¬ k = 4) (e5 : ¬ k = 5) (e6 : ¬ k = 6) :
  Calls Tryz.prog 64 #[v, stV k a b] w (Ret fun r w' => TA w.heap.size w' r ⟨t.items, clearP t.ps, []⟩ ∧ Chg No w w') := by
 obtain ⟨hl1, hl2, hl3, hl4⟩ := tour_len ht
 have h0 := h
 have HT := Lib.hid ht
 obtain ⟨it, ps, rq⟩ := t
 obtain ⟨pv, qv, rfl, hps, hrq⟩ := h
 simp only at hps hrq hl1 hl2 hl3 hl4
 obtain ⟨qa, qc, rfl, _⟩ := id hrq
 obtain ⟨pa, cap, rfl, hcap, hmax, hlen, pf, mf, hl, hcl⟩ := id hps
 obtain ⟨n, hn⟩ : ∃ n, rq.length = n := ⟨_, rfl⟩
 have hW0 := boxes33 (w := w) (t := 31) (t' := 47) (t'' := 31) (x0 := .int .i64 it) (x1 := .slice pa ps.length cap) (x2 := .slice qa n qc) (y0 := .int .i64 k) (y1 := .int .i64 a) (y2 := .int .i64 b) (z0 := .int .i64 0) (z1 := .slice none 0 0) (z2 := .slice none 0 0)
  (R := fun W => Chg No w W ∧ Box3 W w.heap.size (.int .i64 it) (.slice pa ps.length cap) (.slice qa n qc) ∧ Box3 W (w.heap.size + 1) (.int .i64 k) (.int .i64 a) (.int .i64 b) ∧ Box3 W (w.heap.size + 1 + 1) (.int .i64 0) (.slice none 0 0) (.slice none 0 0)) (fun W k b0 b1 b2 => ⟨k, b0, b1, b2⟩)
 obtain ⟨kk, b0, b1, b2⟩ := hW0
 have hn0 : (0 : Int) ≤ (n : Int) := Int.natCast_nonneg _
 rw [hn] at h0 hl2 hrq ⊢
 have HN := Lib.hid hn
 obtain ⟨c0, c1, c2, _⟩ := id b0
 obtain ⟨d0, d1, d2, _⟩ := id b1
 clear hl hcl hps ht hn
 unfold stV
 have HSV := Lib.hid (fun i hi => (sv_of HT.out i hi).2)
 go_enter Tryz.func64, Tryz.ntmps64
 go_wp2_with fail
 refine (l12Begun_any _ _ _ (h0.keep kk) HSV.out).mono ?_
 rintro e w3 ⟨v3, rfl, hTA, k3⟩
 clear c0 c1 c2 d0 d1 d2
 have hs0 := b2.lt
 replace b2 := b2.keep k3
 replace kk := kk.keep k3
 obtain ⟨e0, e1, e2, cf⟩ := id b2
 have cf0 := cf 0
 have cf1 := cf 1
 have cf2 := cf 2
 clear cf
 have hb2l := b2.lt
 obtain ⟨iN, p1, p2, p3, r1, r2, r3, rfl, hTN⟩ := hTA.put3 (b := w.heap.size + 1 + 1) (by omega)
 obtain ⟨z0, z1, z2, _⟩ := ((b2.set0 (.int .i64 iN)).set1 (.slice p1 p2 p3)).set2 (.slice r1 r2 r3)
 have HK := Lib.hid (kk.put3 (b := w.heap.size + 1 + 1) (fun h => by omega) (.int .i64 iN) (.slice p1 p2 p3) (.slice r1 r2 r3))
 have HTN := Lib.hid (hTN.weak (base' := w.heap.size) (by omega))
 clear hTA hTN kk b2
 go_wp2_with fail
 exact bodyPost_ret (v := .agg #[.int .i64 iN, .slice p1 p2 p3, .slice r1 r2 r3]) (by simp [results, Tryz.results64, go_sem, z0, z1, z2]) rfl ⟨_, rfl, HTN.out, HK.out⟩
theorem Sv.again {t : To} (ht : tourB t = true) {l : List Int} (hl : ∀ i, i < t.ps.length → (t.ps.getD i dPl).frm ≤ l.length) : Sv t.ps l := fun i hi => ⟨⟨(sv_of ht i hi).1.1, hl i hi⟩, (sv_of ht i hi).2⟩
set_option maxHeartbeats 4000000 in
theorem l12Make4_any (v : Value) (t : To) (a b : Int) (w : World) (h : RT No w v t) (ht : tourB t = true) (hp : 0 < t.reqs.length) (hf : ∀ i, i < t.ps.length → (t.ps.getD i dPl).frm < t.reqs.length) :
  Calls Tryz.prog 64 #[v, stV 4 a b] w (Ret fun r w' => TA w.heap.size w' r (againT t (t.reqs.take (t.reqs.length - 1))) ∧ Chg No w w') := by
 obtain ⟨k, hk⟩ : ∃ k : Int, k = 4 := ⟨_, rfl⟩
 rw [← hk]
 have HSV := Lib.hid (Sv.again ht (l := t.reqs.take (t.reqs.length - 1)) (fun i hi => by have := hf i hi; rw [List.length_take]; omega))
 clear hf
 obtain ⟨m, hm⟩ : ∃ m, t.reqs.length = m + 1 := ⟨t.reqs.length - 1, by omega⟩
 have hm1 : t.reqs.length - 1 = m := by omega
 rw [hm1] at HSV ⊢
 obtain ⟨hl1, hl2, hl3, hl4⟩ := tour_len ht
 have h0 := h
 have HT := Lib.hid ht
 obtain ⟨it, ps, rq⟩ := t
 obtain ⟨pv, qv, rfl, hps, hrq⟩ := h
 simp only at hps hrq hl1 hl2 hl3 hl4
 obtain ⟨qa, qc, rfl, _⟩ := id hrq
 obtain ⟨pa, cap, rfl, hcap, hmax, hlen, pf, mf, hl, hcl⟩ := id hps
 obtain ⟨n, hn⟩ : ∃ n, rq.length = n := ⟨_, rfl⟩
 have hW0 := boxes33 (w := w) (t := 31) (t' := 47) (t'' := 31) (x0 := .int .i64 it) (x1 := .slice pa ps.length cap) (x2 := .slice qa n qc) (y0 := .int .i64 k) (y1 := .int .i64 a) (y2 := .int .i64 b) (z0 := .int .i64 0) (z1 := .slice none 0 0) (z2 := .slice none 0 0)
  (R := fun W => Chg No w W ∧ Box3 W w.heap.size (.int .i64 it) (.slice pa ps.length cap) (.slice qa n qc) ∧ Box3 W (w.heap.size + 1) (.int .i64 k) (.int .i64 a) (.int .i64 b) ∧ Box3 W (w.heap.size + 1 + 1) (.int .i64 0) (.slice none 0 0) (.slice none 0 0)) (fun W k b0 b1 b2 => ⟨k, b0, b1, b2⟩)
 obtain ⟨kk, b0, b1, b2⟩ := hW0
 have hn0 : (0 : Int) ≤ (n : Int) := Int.natCast_nonneg _
 rw [hn] at h0 hl2 hrq ⊢
 have HN := Lib.hid hn
 obtain ⟨c0, c1, c2, _⟩ := id b0
 obtain ⟨d0, d1, d2, _⟩ := id b1
 clear hl hcl hps ht hn
 simp only at hm
 have hnm : n = m + 1 := by rw [← HN.out]; exact hm
 subst hnm
 subst hk
 unfold stV
 have hrq' : RI No w (.slice qa rq.length qc) rq := by rw [HN.out]; exact hrq
 obtain ⟨x, hx, hrx⟩ := hrq'.upto m (m : Int) rfl (by rw [HN.out]; omega)
 rw [HN.out] at hx
 obtain ⟨xa, xn, xc, rfl⟩ := hrx.shape
 have hw1 : IntKind.i64.wrap (((m + 1 : Nat) : Int) - 1) = (m : Int) := by rw [show ((m + 1 : Nat) : Int) - 1 = (m : Int) by omega]; exact IntWalk.i64_in _ (by omega)
 have hw2 : IntKind.i64.wrap (m : Int) = (m : Int) := IntWalk.i64_in _ (by omega)
 clear hrq hrq' hm hm1 hp
 go_enter Tryz.func64, Tryz.ntmps64
 go_wp2_with fail
 generalize hWW : ((w.alloc _).alloc _).alloc _ = W1
 rw [hWW] at kk b0 b1 b2
 clear c0 c1 c2 d0 d1 d2 hWW
 refine wp_region_K (S := fun W => W.cell? ⟨w.heap.size, 0, none⟩ = some (.int .i64 it) ∧ W.cell? ⟨w.heap.size, 1, none⟩ = some (.slice pa ps.length cap) ∧ W.cell? ⟨w.heap.size, 2, none⟩ = some (.slice qa (m + 1) qc) ∧ W.cell? ⟨w.heap.size + 1, 1, none⟩ = some (.int .i64 a) ∧ W.cell? ⟨w.heap.size + 1, 2, none⟩ = some (.int .i64 b)) (k := 7) (by kernel_rfl) ?_
 replace kk := kk.keep (drewN0 _)
 replace b0 := b0.keep (drewN0 _)
 replace b1 := b1.keep (drewN0 _)
 replace b2 := b2.keep (drewN0 _)
 generalize W1.drew = WR at kk b0 b1 b2 ⊢
 have hS : WR.cell? ⟨w.heap.size, 0, none⟩ = some (.int .i64 it) ∧ WR.cell? ⟨w.heap.size, 1, none⟩ = some (.slice pa ps.length cap) ∧ WR.cell? ⟨w.heap.size, 2, none⟩ = some (.slice qa (m+1) qc) ∧ WR.cell? ⟨w.heap.size + 1, 1, none⟩ = some (.int .i64 a) ∧ WR.cell? ⟨w.heap.size + 1, 2, none⟩ = some (.int .i64 b) := ⟨b0.c0, b0.c1, b0.c2, b1.c1, b1.c2⟩
 refine wpAnyK_takeT 0 (.agg #[.int .i64 it, .slice pa ps.length cap, .slice qa (m + 1) qc]) rfl (by kernel_rfl) (fun _ _ _ h => h) hS rfl (by intro w hSw; go_simp) ?_
 simp only [zA, zC, zD, zE, zF, zG]
 refine wpAnyK_take0 1 (.pointer (some ⟨w.heap.size, 2, none⟩)) rfl (by kernel_rfl) (fun _ _ _ h => h) hS rfl (by intro w; go_simp) ?_
 simp only [zA, zB, zC, zD, zE, zF, zG]
 refine wpAnyK_takeT 2 (.slice qa (m + 1) qc) rfl (by kernel_rfl) (fun _ _ _ h => h) hS rfl (by intro w hSw; go_simp) ?_
 simp only [zA, zB, zC, zD, zE, zF, zG]
 refine wpAnyK_take0 3 (.int .i64 ((m + 1 : Nat) : Int)) rfl (by kernel_rfl) (fun _ _ _ h => h) hS rfl (by intro w; go_simp) ?_
 simp only [zA, zB, zC, zD, zE, zF, zG]
 refine wpAnyK_take0 4 (.int .i64 (m : Int)) rfl (by kernel_rfl) (fun _ _ _ h => h) hS rfl (by intro w; go_simp) ?_
 simp only [zA, zB, zC, zD, zE, zF, zG]
 refine wpAnyK_take0 5 (.slice xa xn xc) rfl (by kernel_rfl) (fun _ _ _ h => h) hS rfl (by intro w; go_simp) ?_
 simp only [zA, zB, zC, zD, zE, zF, zG]
 refine wpAnyK_1 6 (by kernel_rfl) (wpOpK' rfl rfl ?_)
 intro K hK
 refine ocall (f := 113) (args := #[.agg #[.int .i64 it, .slice pa ps.length cap, .slice qa (m + 1) qc], .slice xa xn xc]) (by go_simp) (l12With_any _ _ ⟨it, ps, rq⟩ _ WR (h0.keep kk) (hrx.keep kk) HSV.out) (fun v3 w3 h3 => hK.out _ _ ⟨(b0.keep h3.2).c0, (b0.keep h3.2).c1, (b0.keep h3.2).c2, (b1.keep h3.2).c1, (b1.keep h3.2).c2⟩ ?_)
 obtain ⟨hTA, k3⟩ := h3
 clear hS
 clear hK K
 simp only [zA, zB, zC, zD, zE, zF, zG]
 refine wpAnyK_tail 7 rfl (by kernel_rfl) ?_
 simp only [List.drop_succ_cons, List.drop_zero]
 have hs0 := b2.lt
 replace b2 := b2.keep k3
 replace kk := kk.keep k3
 clear b0 b1
 obtain ⟨e0, e1, e2, cf⟩ := id b2
 have cf0 := cf 0
 have cf1 := cf 1
 have cf2 := cf 2
 clear cf
 have hb2l := b2.lt
 obtain ⟨iN, p1, p2, p3, r1, r2, r3, rfl, hTN⟩ := hTA.put3 (b := w.heap.size + 1 + 1) (by omega)
 obtain ⟨z0, z1, z2, _⟩ := ((b2.set0 (.int .i64 iN)).set1 (.slice p1 p2 p3)).set2 (.slice r1 r2 r3)
 have HK := Lib.hid (kk.put3 (b := w.heap.size + 1 + 1) (fun h => by omega) (.int .i64 iN) (.slice p1 p2 p3) (.slice r1 r2 r3))
 have HTN := Lib.hid (hTN.weak (base' := w.heap.size) (by omega))
 clear hTA hTN kk b2
 go_wp2_with fail
 exact bodyPost_ret (v := .agg #[.int .i64 iN, .slice p1 p2 p3, .slice r1 r2 r3]) (by simp [results, Tryz.results64, go_sem, z0, z1, z2]) rfl ⟨_, rfl, HTN.out, HK.out⟩
set_option maxHeartbeats 4000000 in
theorem l12Make2_any (v : Value) (t : To) (a b : Int) (w : World) (h : RT No w v t) (ht : tourB t = true) :
  Calls Tryz.prog 64 #[v, stV 2 a b] w (Ret fun r w' => TA w.heap.size w' r (againT t (t.reqs ++ [a])) ∧ Chg No w w') := by
 obtain ⟨k, hk⟩ : ∃ k : Int, k = 2 := ⟨_, rfl⟩
 rw [← hk]
 have HSV := Lib.hid (Sv.again ht (l := t.reqs ++ [a]) (fun i hi => by have := (tour_at ht hi).1.2; rw [List.length_append]; omega))
 obtain ⟨hl1, hl2, hl3, hl4⟩ := tour_len ht
 have h0 := h
 have HT := Lib.hid ht
 obtain ⟨it, ps, rq⟩ := t
 obtain ⟨pv, qv, rfl, hps, hrq⟩ := h
 simp only at hps hrq hl1 hl2 hl3 hl4
 obtain ⟨qa, qc, rfl, _⟩ := id hrq
 obtain ⟨pa, cap, rfl, hcap, hmax, hlen, pf, mf, hl, hcl⟩ := id hps
 obtain ⟨n, hn⟩ : ∃ n, rq.length = n := ⟨_, rfl⟩
 have hW0 := boxes33 (w := w) (t := 31) (t' := 47) (t'' := 31) (x0 := .int .i64 it) (x1 := .slice pa ps.length cap) (x2 := .slice qa n qc) (y0 := .int .i64 k) (y1 := .int .i64 a) (y2 := .int .i64 b) (z0 := .int .i64 0) (z1 := .slice none 0 0) (z2 := .slice none 0 0)
  (R := fun W => Chg No w W ∧ Box3 W w.heap.size (.int .i64 it) (.slice pa ps.length cap) (.slice qa n qc) ∧ Box3 W (w.heap.size + 1) (.int .i64 k) (.int .i64 a) (.int .i64 b) ∧ Box3 W (w.heap.size + 1 + 1) (.int .i64 0) (.slice none 0 0) (.slice none 0 0)) (fun W k b0 b1 b2 => ⟨k, b0, b1, b2⟩)
 obtain ⟨kk, b0, b1, b2⟩ := hW0
 have hn0 : (0 : Int) ≤ (n : Int) := Int.natCast_nonneg _
 rw [hn] at h0 hl2 hrq ⊢
 have HN := Lib.hid hn
 obtain ⟨c0, c1, c2, _⟩ := id b0
 obtain ⟨d0, d1, d2, _⟩ := id b1
 clear hl hcl hps ht hn
 subst hk
 unfold stV
 have hrq' : RI No w (.slice qa n qc) rq := hrq
 go_enter Tryz.func64, Tryz.ntmps64
 go_wp2_with fail
 generalize hWW : ((w.alloc _).alloc _).alloc _ = W1
 rw [hWW] at kk b0 b1 b2
 clear c0 c1 c2 d0 d1 d2 hWW
 refine wp_region_K (S := fun W => W.cell? ⟨w.heap.size, 0, none⟩ = some (.int .i64 it) ∧ W.cell? ⟨w.heap.size, 1, none⟩ = some (.slice pa ps.length cap) ∧ W.cell? ⟨w.heap.size, 2, none⟩ = some (.slice qa n qc) ∧ W.cell? ⟨w.heap.size + 1, 1, none⟩ = some (.int .i64 a) ∧ W.cell? ⟨w.heap.size + 1, 2, none⟩ = some (.int .i64 b)) (k := 9) (by kernel_rfl) ?_
 replace kk := kk.keep (drewN0 _)
 replace b0 := b0.keep (drewN0 _)
 replace b1 := b1.keep (drewN0 _)
 replace b2 := b2.keep (drewN0 _)
 generalize W1.drew = WR at kk b0 b1 b2 ⊢
 have hS : WR.cell? ⟨w.heap.size, 0, none⟩ = some (.int .i64 it) ∧ WR.cell? ⟨w.heap.size, 1, none⟩ = some (.slice pa ps.length cap) ∧ WR.cell? ⟨w.heap.size, 2, none⟩ = some (.slice qa n qc) ∧ WR.cell? ⟨w.heap.size + 1, 1, none⟩ = some (.int .i64 a) ∧ WR.cell? ⟨w.heap.size + 1, 2, none⟩ = some (.int .i64 b) := ⟨b0.c0, b0.c1, b0.c2, b1.c1, b1.c2⟩
 refine wpAnyK_takeT 0 (.agg #[.int .i64 it, .slice pa ps.length cap, .slice qa n qc]) rfl (by kernel_rfl) (fun _ _ _ h => h) hS rfl (by intro w hSw; go_simp) ?_
 simp only [zA, zC, zD, zE, zF, zG]
 refine wpAnyK_take0 1 (.pointer (some ⟨w.heap.size, 2, none⟩)) rfl (by kernel_rfl) (fun _ _ _ h => h) hS rfl (by intro w; go_simp) ?_
 simp only [zA, zB, zC, zD, zE, zF, zG]
 refine wpAnyK_takeT 2 (.slice qa n qc) rfl (by kernel_rfl) (fun _ _ _ h => h) hS rfl (by intro w hSw; go_simp) ?_
 simp only [zA, zB, zC, zD, zE, zF, zG]
 refine wpAnyK_take0 4 (.pointer (some ⟨w.heap.size + 1, 1, none⟩)) rfl (by kernel_rfl) (fun _ _ _ h => h) hS rfl (by intro w; go_simp) ?_
 simp only [zA, zB, zC, zD, zE, zF, zG]
 refine wpAnyK_takeT 5 (.int .i64 a) rfl (by kernel_rfl) (fun _ _ _ h => h) hS rfl (by intro w hSw; go_simp) ?_
 simp only [zA, zB, zC, zD, zE, zF, zG]
 refine wpAnyK_2 3 6 (by kernel_rfl) (wpOpK' rfl rfl ?_) (wpOpK' rfl rfl ?_)
 ·skip
  intro K hK
  refine ocall (f := 114) (args := #[.slice qa n qc]) (by go_simp) (l1Own_any No _ rq WR (hrq'.keep kk)) (fun v1 WQ h1 => hK.out _ _ ⟨(b0.keep h1.2).c0, (b0.keep h1.2).c1, (b0.keep h1.2).c2, (b1.keep h1.2).c1, (b1.keep h1.2).c2⟩ ?_)
  obtain ⟨o1, kx⟩ := h1
  clear hK K
  try clear hS
  simp only [zA, zB, zC, zD, zE, zF, zG]
  have hb := b2.lt
  obtain ⟨za, zn, zc, rfl⟩ := o1.shape
  replace o1 := o1.weak (base' := w.heap.size + 3) (by omega)
  try replace hg := (kx.cellD g 0 (World.block_lt_of_cell? WR _ hg) (fun e => e)).trans hg
  replace kk := kk.keep kx
  replace b0 := b0.keep kx
  replace b1 := b1.keep kx
  replace b2 := b2.keep kx
  clear kx hb
  generalize WQ = WR at *
  refine wpAnyK_1 6 (by kernel_rfl) (wpOpK' rfl rfl ?_)
  intro K hK
  refine obuild (.tmp 26) a rfl rfl (fun g WQ kx hg hge => hK.out _ _ ⟨(b0.keep kx).c0, (b0.keep kx).c1, (b0.keep kx).c2, (b1.keep kx).c1, (b1.keep kx).c2⟩ ?_)
  clear hK K
  simp only [zA, zB, zC, zD, zE, zF, zG]
  try replace o1 := o1.keep kx
  replace kk := kk.keep kx
  replace b0 := b0.keep kx
  replace b1 := b1.keep kx
  replace b2 := b2.keep kx
  clear kx hge
  try clear hS
  generalize WQ = WR at *
  refine wpAnyK_1 7 (by kernel_rfl) (wpOpK' rfl rfl ?_)
  intro K hK
  have hne : ∀ q, own (.slice za zn zc) q → w.heap.size + 3 ≤ q := fun q hq => (o1.lt q hq).1
  refine oapp (.tmp 24) (.tmp 27) rfl o1 (RI.one (A := No) (n := a) hg (Nat.le_refl 1) (by omega) (fun e => e)) rfl rfl (by have := HN.out; simp; omega) (by have := b2.lt; omega) (fun v7 WQ o7 kx fx => hK.out _ _ ⟨(b0.step kx (fun e => by have := hne _ e; omega)).c0, (b0.step kx (fun e => by have := hne _ e; omega)).c1, (b0.step kx (fun e => by have := hne _ e; omega)).c2, (b1.step kx (fun e => by have := hne _ e; omega)).c1, (b1.step kx (fun e => by have := hne _ e; omega)).c2⟩ ?_)
  clear hK K
  simp only [zA, zB, zC, zD, zE, zF, zG]
  replace kk := kk.step kx (fun q e hl => by have := hne q e; omega)
  replace b0 := b0.step kx (fun e => by have := hne _ e; omega)
  replace b1 := b1.step kx (fun e => by have := hne _ e; omega)
  replace b2 := b2.step kx (fun e => by have := hne _ e; omega)
  clear kx fx o1 hne
  obtain ⟨ya, yn, yc, rfl⟩ := o7.shape
  generalize WQ = WR at *
  refine wpAnyK_1 8 (by kernel_rfl) (wpOpK' rfl rfl ?_)
  intro K hK
  refine ocall (f := 113) (args := #[.agg #[.int .i64 it, .slice pa ps.length cap, .slice qa n qc], .slice ya yn yc]) (by go_simp) (l12With_any _ _ ⟨it, ps, rq⟩ _ WR (h0.keep kk) o7.readNo HSV.out) (fun v3 w3 h3 => hK.out _ _ ⟨(b0.keep h3.2).c0, (b0.keep h3.2).c1, (b0.keep h3.2).c2, (b1.keep h3.2).c1, (b1.keep h3.2).c2⟩ ?_)
  obtain ⟨hTA, k3⟩ := h3
  clear hK K
  simp only [zA, zB, zC, zD, zE, zF, zG]
  refine wpAnyK_tail 9 rfl (by kernel_rfl) ?_
  simp only [List.drop_succ_cons, List.drop_zero]
  have hs0 := b2.lt
  replace b2 := b2.keep k3
  replace kk := kk.keep k3
  clear b0 b1
  obtain ⟨e0, e1, e2, cf⟩ := id b2
  have cf0 := cf 0
  have cf1 := cf 1
  have cf2 := cf 2
  clear cf
  have hb2l := b2.lt
  obtain ⟨iN, p1, p2, p3, r1, r2, r3, rfl, hTN⟩ := hTA.put3 (b := w.heap.size + 1 + 1) (by omega)
  obtain ⟨z0, z1, z2, _⟩ := ((b2.set0 (.int .i64 iN)).set1 (.slice p1 p2 p3)).set2 (.slice r1 r2 r3)
  have HK := Lib.hid (kk.put3 (b := w.heap.size + 1 + 1) (fun h => by omega) (.int .i64 iN) (.slice p1 p2 p3) (.slice r1 r2 r3))
  have HTN := Lib.hid (hTN.weak (base' := w.heap.size) (by omega))
  clear hTA hTN kk b2
  go_wp2_with fail
  exact bodyPost_ret (v := .agg #[.int .i64 iN, .slice p1 p2 p3, .slice r1 r2 r3]) (by simp [results, Tryz.results64, go_sem, z0, z1, z2]) rfl ⟨_, rfl, HTN.out, HK.out⟩
 ·skip
  intro K hK
  refine obuild (.tmp 26) a rfl rfl (fun g WQ kx hg hge => hK.out _ _ ⟨(b0.keep kx).c0, (b0.keep kx).c1, (b0.keep kx).c2, (b1.keep kx).c1, (b1.keep kx).c2⟩ ?_)
  clear hK K
  simp only [zA, zB, zC, zD, zE, zF, zG]
  try replace o1 := o1.keep kx
  replace kk := kk.keep kx
  replace b0 := b0.keep kx
  replace b1 := b1.keep kx
  replace b2 := b2.keep kx
  clear kx hge
  try clear hS
  generalize WQ = WR at *
  refine wpAnyK_1 3 (by kernel_rfl) (wpOpK' rfl rfl ?_)
  intro K hK
  refine ocall (f := 114) (args := #[.slice qa n qc]) (by go_simp) (l1Own_any No _ rq WR (hrq'.keep kk)) (fun v1 WQ h1 => hK.out _ _ ⟨(b0.keep h1.2).c0, (b0.keep h1.2).c1, (b0.keep h1.2).c2, (b1.keep h1.2).c1, (b1.keep h1.2).c2⟩ ?_)
  obtain ⟨o1, kx⟩ := h1
  clear hK K
  try clear hS
  simp only [zA, zB, zC, zD, zE, zF, zG]
  have hb := b2.lt
  obtain ⟨za, zn, zc, rfl⟩ := o1.shape
  replace o1 := o1.weak (base' := w.heap.size + 3) (by omega)
  try replace hg := (kx.cellD g 0 (World.block_lt_of_cell? WR _ hg) (fun e => e)).trans hg
  replace kk := kk.keep kx
  replace b0 := b0.keep kx
  replace b1 := b1.keep kx
  replace b2 := b2.keep kx
  clear kx hb
  generalize WQ = WR at *
  refine wpAnyK_1 7 (by kernel_rfl) (wpOpK' rfl rfl ?_)
  intro K hK
  have hne : ∀ q, own (.slice za zn zc) q → w.heap.size + 3 ≤ q := fun q hq => (o1.lt q hq).1
  refine oapp (.tmp 24) (.tmp 27) rfl o1 (RI.one (A := No) (n := a) hg (Nat.le_refl 1) (by omega) (fun e => e)) rfl rfl (by have := HN.out; simp; omega) (by have := b2.lt; omega) (fun v7 WQ o7 kx fx => hK.out _ _ ⟨(b0.step kx (fun e => by have := hne _ e; omega)).c0, (b0.step kx (fun e => by have := hne _ e; omega)).c1, (b0.step kx (fun e => by have := hne _ e; omega)).c2, (b1.step kx (fun e => by have := hne _ e; omega)).c1, (b1.step kx (fun e => by have := hne _ e; omega)).c2⟩ ?_)
  clear hK K
  simp only [zA, zB, zC, zD, zE, zF, zG]
  replace kk := kk.step kx (fun q e hl => by have := hne q e; omega)
  replace b0 := b0.step kx (fun e => by have := hne _ e; omega)
  replace b1 := b1.step kx (fun e => by have := hne _ e; omega)
  replace b2 := b2.step kx (fun e => by have := hne _ e; omega)
  clear kx fx o1 hne
  obtain ⟨ya, yn, yc, rfl⟩ := o7.shape
  generalize WQ = WR at *
  refine wpAnyK_1 8 (by kernel_rfl) (wpOpK' rfl rfl ?_)
  intro K hK
  refine ocall (f := 113) (args := #[.agg #[.int .i64 it, .slice pa ps.length cap, .slice qa n qc], .slice ya yn yc]) (by go_simp) (l12With_any _ _ ⟨it, ps, rq⟩ _ WR (h0.keep kk) o7.readNo HSV.out) (fun v3 w3 h3 => hK.out _ _ ⟨(b0.keep h3.2).c0, (b0.keep h3.2).c1, (b0.keep h3.2).c2, (b1.keep h3.2).c1, (b1.keep h3.2).c2⟩ ?_)
  obtain ⟨hTA, k3⟩ := h3
  clear hK K
  simp only [zA, zB, zC, zD, zE, zF, zG]
  refine wpAnyK_tail 9 rfl (by kernel_rfl) ?_
  simp only [List.drop_succ_cons, List.drop_zero]
  have hs0 := b2.lt
  replace b2 := b2.keep k3
  replace kk := kk.keep k3
  clear b0 b1
  obtain ⟨e0, e1, e2, cf⟩ := id b2
  have cf0 := cf 0
  have cf1 := cf 1
  have cf2 := cf 2
  clear cf
  have hb2l := b2.lt
  obtain ⟨iN, p1, p2, p3, r1, r2, r3, rfl, hTN⟩ := hTA.put3 (b := w.heap.size + 1 + 1) (by omega)
  obtain ⟨z0, z1, z2, _⟩ := ((b2.set0 (.int .i64 iN)).set1 (.slice p1 p2 p3)).set2 (.slice r1 r2 r3)
  have HK := Lib.hid (kk.put3 (b := w.heap.size + 1 + 1) (fun h => by omega) (.int .i64 iN) (.slice p1 p2 p3) (.slice r1 r2 r3))
  have HTN := Lib.hid (hTN.weak (base' := w.heap.size) (by omega))
  clear hTA hTN kk b2
  go_wp2_with fail
  exact bodyPost_ret (v := .agg #[.int .i64 iN, .slice p1 p2 p3, .slice r1 r2 r3]) (by simp [results, Tryz.results64, go_sem, z0, z1, z2]) rfl ⟨_, rfl, HTN.out, HK.out⟩
set_option maxHeartbeats 4000000 in
theorem l12Make5_any (v : Value) (t : To) (a b : Int) (w : World) (h : RT No w v t) (ht : tourB t = true) (ha : 1 ≤ a ∧ a ≤ t.reqs.length) :
  Calls Tryz.prog 64 #[v, stV 5 a b] w (Ret fun r w' => TA w.heap.size w' r (againT t (t.reqs ++ t.reqs.drop (t.reqs.length - a.toNat))) ∧ Chg No w w') := by
 obtain ⟨k, hk⟩ : ∃ k : Int, k = 5 := ⟨_, rfl⟩
 rw [← hk]
 have HSV := Lib.hid (Sv.again ht (l := t.reqs ++ t.reqs.drop (t.reqs.length - a.toNat)) (fun i hi => by have := (tour_at ht hi).1.2; rw [List.length_append]; omega))
 obtain ⟨hl1, hl2, hl3, hl4⟩ := tour_len ht
 have h0 := h
 have HT := Lib.hid ht
 obtain ⟨it, ps, rq⟩ := t
 obtain ⟨pv, qv, rfl, hps, hrq⟩ := h
 simp only at hps hrq hl1 hl2 hl3 hl4
 obtain ⟨qa, qc, rfl, _⟩ := id hrq
 obtain ⟨pa, cap, rfl, hcap, hmax, hlen, pf, mf, hl, hcl⟩ := id hps
 obtain ⟨n, hn⟩ : ∃ n, rq.length = n := ⟨_, rfl⟩
 have hW0 := boxes33 (w := w) (t := 31) (t' := 47) (t'' := 31) (x0 := .int .i64 it) (x1 := .slice pa ps.length cap) (x2 := .slice qa n qc) (y0 := .int .i64 k) (y1 := .int .i64 a) (y2 := .int .i64 b) (z0 := .int .i64 0) (z1 := .slice none 0 0) (z2 := .slice none 0 0)
  (R := fun W => Chg No w W ∧ Box3 W w.heap.size (.int .i64 it) (.slice pa ps.length cap) (.slice qa n qc) ∧ Box3 W (w.heap.size + 1) (.int .i64 k) (.int .i64 a) (.int .i64 b) ∧ Box3 W (w.heap.size + 1 + 1) (.int .i64 0) (.slice none 0 0) (.slice none 0 0)) (fun W k b0 b1 b2 => ⟨k, b0, b1, b2⟩)
 obtain ⟨kk, b0, b1, b2⟩ := hW0
 have hn0 : (0 : Int) ≤ (n : Int) := Int.natCast_nonneg _
 rw [hn] at h0 hl2 hrq ⊢
 have HN := Lib.hid hn
 obtain ⟨c0, c1, c2, _⟩ := id b0
 obtain ⟨d0, d1, d2, _⟩ := id b1
 clear hl hcl hps ht hn
 subst hk
 simp only at ha HSV
 rw [HN.out] at ha HSV
 unfold stV
 have hrq' : RI No w (.slice qa n qc) rq := hrq
 have hrq2 : RI No w (.slice qa rq.length qc) rq := by rw [HN.out]; exact hrq
 obtain ⟨x, hx, hrx⟩ := hrq2.from (n - a.toNat) ((n : Int) - a) (by omega) (by rw [HN.out]; omega)
 rw [HN.out] at hx
 obtain ⟨xa, xn, xc, rfl⟩ := hrx.shape
 have hw1 : IntKind.i64.wrap ((n : Int) - a) = (n : Int) - a := IntWalk.i64_in _ (by omega)
 go_enter Tryz.func64, Tryz.ntmps64
 go_wp2_with fail
 generalize hWW : ((w.alloc _).alloc _).alloc _ = W1
 rw [hWW] at kk b0 b1 b2
 clear c0 c1 c2 d0 d1 d2 hWW
 refine wp_region_K (S := fun W => W.cell? ⟨w.heap.size, 0, none⟩ = some (.int .i64 it) ∧ W.cell? ⟨w.heap.size, 1, none⟩ = some (.slice pa ps.length cap) ∧ W.cell? ⟨w.heap.size, 2, none⟩ = some (.slice qa n qc) ∧ W.cell? ⟨w.heap.size + 1, 1, none⟩ = some (.int .i64 a) ∧ W.cell? ⟨w.heap.size + 1, 2, none⟩ = some (.int .i64 b)) (k := 13) (by kernel_rfl) ?_
 replace kk := kk.keep (drewN0 _)
 replace b0 := b0.keep (drewN0 _)
 replace b1 := b1.keep (drewN0 _)
 replace b2 := b2.keep (drewN0 _)
 generalize W1.drew = WR at kk b0 b1 b2 ⊢
 have hS : WR.cell? ⟨w.heap.size, 0, none⟩ = some (.int .i64 it) ∧ WR.cell? ⟨w.heap.size, 1, none⟩ = some (.slice pa ps.length cap) ∧ WR.cell? ⟨w.heap.size, 2, none⟩ = some (.slice qa n qc) ∧ WR.cell? ⟨w.heap.size + 1, 1, none⟩ = some (.int .i64 a) ∧ WR.cell? ⟨w.heap.size + 1, 2, none⟩ = some (.int .i64 b) := ⟨b0.c0, b0.c1, b0.c2, b1.c1, b1.c2⟩
 refine wpAnyK_takeT 0 (.agg #[.int .i64 it, .slice pa ps.length cap, .slice qa n qc]) rfl (by kernel_rfl) (fun _ _ _ h => h) hS rfl (by intro w hSw; go_simp) ?_
 simp only [zA, zC, zD, zE, zF, zG]
 refine wpAnyK_take0 1 (.pointer (some ⟨w.heap.size, 2, none⟩)) rfl (by kernel_rfl) (fun _ _ _ h => h) hS rfl (by intro w; go_simp) ?_
 simp only [zA, zB, zC, zD, zE, zF, zG]
 refine wpAnyK_takeT 2 (.slice qa n qc) rfl (by kernel_rfl) (fun _ _ _ h => h) hS rfl (by intro w hSw; go_simp) ?_
 simp only [zA, zB, zC, zD, zE, zF, zG]
 refine wpAnyK_take0 4 (.pointer (some ⟨w.heap.size, 2, none⟩)) rfl (by kernel_rfl) (fun _ _ _ h => h) hS rfl (by intro w; go_simp) ?_
 simp only [zA, zB, zC, zD, zE, zF, zG]
 refine wpAnyK_takeT 5 (.slice qa n qc) rfl (by kernel_rfl) (fun _ _ _ h => h) hS rfl (by intro w hSw; go_simp) ?_
 simp only [zA, zB, zC, zD, zE, zF, zG]
 refine wpAnyK_take0 6 (.int .i64 (n : Int)) rfl (by kernel_rfl) (fun _ _ _ h => h) hS rfl (by intro w; go_simp) ?_
 simp only [zA, zB, zC, zD, zE, zF, zG]
 refine wpAnyK_take0 7 (.pointer (some ⟨w.heap.size + 1, 1, none⟩)) rfl (by kernel_rfl) (fun _ _ _ h => h) hS rfl (by intro w; go_simp) ?_
 simp only [zA, zB, zC, zD, zE, zF, zG]
 refine wpAnyK_takeT 8 (.int .i64 a) rfl (by kernel_rfl) (fun _ _ _ h => h) hS rfl (by intro w hSw; go_simp) ?_
 simp only [zA, zB, zC, zD, zE, zF, zG]
 refine wpAnyK_take0 9 (.int .i64 ((n : Int) - a)) rfl (by kernel_rfl) (fun _ _ _ h => h) hS rfl (by intro w; go_simp) ?_
 simp only [zA, zB, zC, zD, zE, zF, zG]
 refine wpAnyK_take0 10 (.slice xa xn xc) rfl (by kernel_rfl) (fun _ _ _ h => h) hS rfl (by intro w; go_simp) ?_
 simp only [zA, zB, zC, zD, zE, zF, zG]
 refine wpAnyK_1 3 (by kernel_rfl) (wpOpK' rfl rfl ?_)
 intro K hK
 refine ocall (f := 114) (args := #[.slice qa n qc]) (by go_simp) (l1Own_any No _ rq WR (hrq'.keep kk)) (fun v1 WQ h1 => hK.out _ _ ⟨(b0.keep h1.2).c0, (b0.keep h1.2).c1, (b0.keep h1.2).c2, (b1.keep h1.2).c1, (b1.keep h1.2).c2⟩ ?_)
 obtain ⟨o1, kx⟩ := h1
 clear hK K
 try clear hS
 simp only [zA, zB, zC, zD, zE, zF, zG]
 have hb := b2.lt
 obtain ⟨za, zn, zc, rfl⟩ := o1.shape
 replace o1 := o1.weak (base' := w.heap.size + 3) (by omega)
 try replace hg := (kx.cellD g 0 (World.block_lt_of_cell? WR _ hg) (fun e => e)).trans hg
 replace kk := kk.keep kx
 replace b0 := b0.keep kx
 replace b1 := b1.keep kx
 replace b2 := b2.keep kx
 clear kx hb
 generalize WQ = WR at *
 refine wpAnyK_1 11 (by kernel_rfl) (wpOpK' rfl rfl ?_)
 intro K hK
 have hne : ∀ q, own (.slice za zn zc) q → w.heap.size + 3 ≤ q := fun q hq => (o1.lt q hq).1
 refine oapp (.tmp 50) (.tmp 57) rfl o1 (hrx.keep kk) rfl rfl (by have := HN.out; rw [List.length_drop]; omega) (by have := b2.lt; omega) (fun v7 WQ o7 kx fx => hK.out _ _ ⟨(b0.step kx (fun e => by have := hne _ e; omega)).c0, (b0.step kx (fun e => by have := hne _ e; omega)).c1, (b0.step kx (fun e => by have := hne _ e; omega)).c2, (b1.step kx (fun e => by have := hne _ e; omega)).c1, (b1.step kx (fun e => by have := hne _ e; omega)).c2⟩ ?_)
 clear hK K
 simp only [zA, zB, zC, zD, zE, zF, zG]
 replace kk := kk.step kx (fun q e hl => by have := hne q e; omega)
 replace b0 := b0.step kx (fun e => by have := hne _ e; omega)
 replace b1 := b1.step kx (fun e => by have := hne _ e; omega)
 replace b2 := b2.step kx (fun e => by have := hne _ e; omega)
 clear kx fx o1 hne
 obtain ⟨ya, yn, yc, rfl⟩ := o7.shape
 generalize WQ = WR at *
 refine wpAnyK_1 12 (by kernel_rfl) (wpOpK' rfl rfl ?_)
 intro K hK
 refine ocall (f := 113) (args := #[.agg #[.int .i64 it, .slice pa ps.length cap, .slice qa n qc], .slice ya yn yc]) (by go_simp) (l12With_any _ _ ⟨it, ps, rq⟩ _ WR (h0.keep kk) o7.readNo HSV.out) (fun v3 w3 h3 => hK.out _ _ ⟨(b0.keep h3.2).c0, (b0.keep h3.2).c1, (b0.keep h3.2).c2, (b1.keep h3.2).c1, (b1.keep h3.2).c2⟩ ?_)
 obtain ⟨hTA, k3⟩ := h3
 clear hK K
 simp only [zA, zB, zC, zD, zE, zF, zG]
 refine wpAnyK_tail 13 rfl (by kernel_rfl) ?_
 simp only [List.drop_succ_cons, List.drop_zero]
 have hs0 := b2.lt
 replace b2 := b2.keep k3
 replace kk := kk.keep k3
 clear b0 b1
 obtain ⟨e0, e1, e2, cf⟩ := id b2
 have cf0 := cf 0
 have cf1 := cf 1
 have cf2 := cf 2
 clear cf
 have hb2l := b2.lt
 obtain ⟨iN, p1, p2, p3, r1, r2, r3, rfl, hTN⟩ := hTA.put3 (b := w.heap.size + 1 + 1) (by omega)
 obtain ⟨z0, z1, z2, _⟩ := ((b2.set0 (.int .i64 iN)).set1 (.slice p1 p2 p3)).set2 (.slice r1 r2 r3)
 have HK := Lib.hid (kk.put3 (b := w.heap.size + 1 + 1) (fun h => by omega) (.int .i64 iN) (.slice p1 p2 p3) (.slice r1 r2 r3))
 have HTN := Lib.hid (hTN.weak (base' := w.heap.size) (by omega))
 clear hTA hTN kk b2
 go_wp2_with fail
 exact bodyPost_ret (v := .agg #[.int .i64 iN, .slice p1 p2 p3, .slice r1 r2 r3]) (by simp [results, Tryz.results64, go_sem, z0, z1, z2]) rfl ⟨_, rfl, HTN.out, HK.out⟩
set_option maxHeartbeats 4000000 in
theorem l12Make6_any (v : Value) (t : To) (a b : Int) (w : World) (h : RT No w v t) (ht : tourB t = true) (ha : hasP t a = true) (hs : (t.ps.getD a.toNat dPl).ca.size < t.items) (hb : inB b 1 (60 - (t.reqs.length : Int)) = true) :
  Calls Tryz.prog 64 #[v, stV 6 a b] w (Ret fun r w' => TA w.heap.size w' r (againT t (t.reqs ++ cruelI (t.ps.getD a.toNat dPl).ca b.toNat)) ∧ Chg No w w') := by
 have hik := inB_iff.1 ha
 have hbk := inB_iff.1 hb
 obtain ⟨x, rfl⟩ : ∃ x : Nat, a = (x : Int) := ⟨a.toNat, by omega⟩
 obtain ⟨z, rfl⟩ : ∃ z : Nat, b = (z : Int) := ⟨b.toNat, by omega⟩
 have hx : x < t.ps.length := by omega
 have hz : t.reqs.length + z ≤ 60 := by omega
 rw [show (x : Int).toNat = x by omega] at hs ⊢
 rw [show (z : Int).toNat = z by omega]
 obtain ⟨a, hax⟩ : ∃ a : Int, a = (x : Int) := ⟨_, rfl⟩
 obtain ⟨b, hbx⟩ : ∃ b : Int, b = (z : Int) := ⟨_, rfl⟩
 rw [← hax, ← hbx]
 have HXX := Lib.hid hx
 have HZZ := Lib.hid hz
 have HSV := Lib.hid (Sv.again ht (l := t.reqs ++ cruelI (t.ps.getD x dPl).ca z) (fun i hi => by have := (tour_at ht hi).1.2; rw [List.length_append]; omega))
 clear hik hbk ha hb hs hx hz
 obtain ⟨k, hk⟩ : ∃ k : Int, k = 6 := ⟨_, rfl⟩
 rw [← hk]
 obtain ⟨hl1, hl2, hl3, hl4⟩ := tour_len ht
 have h0 := h
 have HT := Lib.hid ht
 obtain ⟨it, ps, rq⟩ := t
 obtain ⟨pv, qv, rfl, hps, hrq⟩ := h
 simp only at hps hrq hl1 hl2 hl3 hl4
 obtain ⟨qa, qc, rfl, _⟩ := id hrq
 obtain ⟨pa, cap, rfl, hcap, hmax, hlen, pf, mf, hl, hcl⟩ := id hps
 obtain ⟨n, hn⟩ : ∃ n, rq.length = n := ⟨_, rfl⟩
 have hW0 := boxes33 (w := w) (t := 31) (t' := 47) (t'' := 31) (x0 := .int .i64 it) (x1 := .slice pa ps.length cap) (x2 := .slice qa n qc) (y0 := .int .i64 k) (y1 := .int .i64 a) (y2 := .int .i64 b) (z0 := .int .i64 0) (z1 := .slice none 0 0) (z2 := .slice none 0 0)
  (R := fun W => Chg No w W ∧ Box3 W w.heap.size (.int .i64 it) (.slice pa ps.length cap) (.slice qa n qc) ∧ Box3 W (w.heap.size + 1) (.int .i64 k) (.int .i64 a) (.int .i64 b) ∧ Box3 W (w.heap.size + 1 + 1) (.int .i64 0) (.slice none 0 0) (.slice none 0 0)) (fun W k b0 b1 b2 => ⟨k, b0, b1, b2⟩)
 obtain ⟨kk, b0, b1, b2⟩ := hW0
 have hn0 : (0 : Int) ≤ (n : Int) := Int.natCast_nonneg _
 rw [hn] at h0 hl2 hrq ⊢
 have HN := Lib.hid hn
 obtain ⟨c0, c1, c2, _⟩ := id b0
 obtain ⟨d0, d1, d2, _⟩ := id b1
 clear hl hcl hps ht hn
 subst hk
 unfold stV
 subst hax
 subst hbx
 go_enter Tryz.func64, Tryz.ntmps64
 go_wp2_with fail
 generalize hWW : ((w.alloc _).alloc _).alloc _ = W1
 rw [hWW] at kk b0 b1 b2
 clear c0 c1 c2 d0 d1 d2 hWW
 refine wp_region_K (S := fun W => W.cell? ⟨w.heap.size, 0, none⟩ = some (.int .i64 it) ∧ W.cell? ⟨w.heap.size, 1, none⟩ = some (.slice pa ps.length cap) ∧ W.cell? ⟨w.heap.size, 2, none⟩ = some (.slice qa n qc) ∧ W.cell? ⟨w.heap.size + 1, 1, none⟩ = some (.int .i64 (x:Int)) ∧ W.cell? ⟨w.heap.size + 1, 2, none⟩ = some (.int .i64 (z:Int))) (k := 8) (by kernel_rfl) ?_
 replace kk := kk.keep (drewN0 _)
 replace b0 := b0.keep (drewN0 _)
 replace b1 := b1.keep (drewN0 _)
 replace b2 := b2.keep (drewN0 _)
 generalize W1.drew = WR at kk b0 b1 b2 ⊢
 have hS : WR.cell? ⟨w.heap.size, 0, none⟩ = some (.int .i64 it) ∧ WR.cell? ⟨w.heap.size, 1, none⟩ = some (.slice pa ps.length cap) ∧ WR.cell? ⟨w.heap.size, 2, none⟩ = some (.slice qa n qc) ∧ WR.cell? ⟨w.heap.size + 1, 1, none⟩ = some (.int .i64 (x:Int)) ∧ WR.cell? ⟨w.heap.size + 1, 2, none⟩ = some (.int .i64 (z:Int)) := ⟨b0.c0, b0.c1, b0.c2, b1.c1, b1.c2⟩
 refine wpAnyK_takeT 0 (.agg #[.int .i64 it, .slice pa ps.length cap, .slice qa n qc]) rfl (by kernel_rfl) (fun _ _ _ h => h) hS rfl (by intro w hSw; go_simp) ?_
 simp only [zA, zC, zD, zE, zF, zG]
 refine wpAnyK_takeT 1 (.agg #[.int .i64 it, .slice pa ps.length cap, .slice qa n qc]) rfl (by kernel_rfl) (fun _ _ _ h => h) hS rfl (by intro w hSw; go_simp) ?_
 simp only [zA, zB, zC, zD, zE, zF, zG]
 refine wpAnyK_take0 2 (.pointer (some ⟨w.heap.size + 1, 1, none⟩)) rfl (by kernel_rfl) (fun _ _ _ h => h) hS rfl (by intro w; go_simp) ?_
 simp only [zA, zB, zC, zD, zE, zF, zG]
 refine wpAnyK_takeT 3 (.int .i64 (x : Int)) rfl (by kernel_rfl) (fun _ _ _ h => h) hS rfl (by intro w hSw; go_simp) ?_
 simp only [zA, zB, zC, zD, zE, zF, zG]
 refine wpAnyK_take0 4 (.pointer (some ⟨w.heap.size + 1, 2, none⟩)) rfl (by kernel_rfl) (fun _ _ _ h => h) hS rfl (by intro w; go_simp) ?_
 simp only [zA, zB, zC, zD, zE, zF, zG]
 refine wpAnyK_takeT 5 (.int .i64 (z : Int)) rfl (by kernel_rfl) (fun _ _ _ h => h) hS rfl (by intro w hSw; go_simp) ?_
 simp only [zA, zB, zC, zD, zE, zF, zG]
 refine wpAnyK_1 6 (by kernel_rfl) (wpOpK' rfl rfl ?_)
 intro K hK
 refine ocall (f := 116) (args := #[.agg #[.int .i64 it, .slice pa ps.length cap, .slice qa n qc], .int .i64 (x : Int), .int .i64 (z : Int)]) (by go_simp) (l12Cruel_any _ ⟨it, ps, rq⟩ x z WR (h0.keep kk) HT.out HXX.out HZZ.out) (fun v1 WQ h1 => hK.out _ _ ⟨(b0.keep h1.2).c0, (b0.keep h1.2).c1, (b0.keep h1.2).c2, (b1.keep h1.2).c1, (b1.keep h1.2).c2⟩ ?_)
 obtain ⟨o1, kx⟩ := h1
 clear hK K hS
 simp only [zA, zB, zC, zD, zE, zF, zG]
 have hb := b2.lt
 obtain ⟨za, zn, zc, rfl⟩ := o1.shape
 replace kk := kk.keep kx
 replace b0 := b0.keep kx
 replace b1 := b1.keep kx
 replace b2 := b2.keep kx
 clear kx hb
 generalize WQ = WR at *
 refine wpAnyK_1 7 (by kernel_rfl) (wpOpK' rfl rfl ?_)
 intro K hK
 refine ocall (f := 113) (args := #[.agg #[.int .i64 it, .slice pa ps.length cap, .slice qa n qc], .slice za zn zc]) (by go_simp) (l12With_any _ _ ⟨it, ps, rq⟩ _ WR (h0.keep kk) o1.readNo HSV.out) (fun v3 w3 h3 => hK.out _ _ ⟨(b0.keep h3.2).c0, (b0.keep h3.2).c1, (b0.keep h3.2).c2, (b1.keep h3.2).c1, (b1.keep h3.2).c2⟩ ?_)
 obtain ⟨hTA, k3⟩ := h3
 clear hK K
 simp only [zA, zB, zC, zD, zE, zF, zG]
 refine wpAnyK_tail 8 rfl (by kernel_rfl) ?_
 simp only [List.drop_succ_cons, List.drop_zero]
 have hs0 := b2.lt
 replace b2 := b2.keep k3
 replace kk := kk.keep k3
 clear b0 b1
 obtain ⟨e0, e1, e2, cf⟩ := id b2
 have cf0 := cf 0
 have cf1 := cf 1
 have cf2 := cf 2
 clear cf
 have hb2l := b2.lt
 obtain ⟨iN, p1, p2, p3, r1, r2, r3, rfl, hTN⟩ := hTA.put3 (b := w.heap.size + 1 + 1) (by omega)
 obtain ⟨z0, z1, z2, _⟩ := ((b2.set0 (.int .i64 iN)).set1 (.slice p1 p2 p3)).set2 (.slice r1 r2 r3)
 have HK := Lib.hid (kk.put3 (b := w.heap.size + 1 + 1) (fun h => by omega) (.int .i64 iN) (.slice p1 p2 p3) (.slice r1 r2 r3))
 have HTN := Lib.hid (hTN.weak (base' := w.heap.size) (by omega))
 clear hTA hTN kk b2
 go_wp2_with fail
 exact bodyPost_ret (v := .agg #[.int .i64 iN, .slice p1 p2 p3, .slice r1 r2 r3]) (by simp [results, Tryz.results64, go_sem, z0, z1, z2]) rfl ⟨_, rfl, HTN.out, HK.out⟩
theorem l12Make_any (v : Value) (t : To) (k a b : Int) (w : World) (h : RT No w v t) (ht : tourB t = true) (hok : okStep t k a b = true) :
  Calls Tryz.prog 64 #[v, stV k a b] w (Ret fun r w' => TA w.heap.size w' r (stepT t k a b) ∧ Chg No w w') := by
 unfold okStep at hok
 unfold stepT
 by_cases e1 : k = 1
 ·rw [if_pos e1]; subst e1; exact l12Make1_any v t a b w h ht
 rw [if_neg e1] at hok ⊢
 by_cases e6 : k = 6
 ·rw [if_pos e6] at hok ⊢
  simp only [Bool.and_eq_true, decide_eq_true_eq] at hok
  subst e6
  exact l12Make6_any v t a b w h ht hok.1 hok.2.1 hok.2.2
 rw [if_neg e6] at hok ⊢
 unfold okPlain at hok
 simp only [Bool.and_eq_true, beq_iff_eq] at hok
 obtain ⟨_, hok⟩ := hok
 by_cases e2 : k = 2
 ·rw [if_pos e2]; subst e2; exact l12Make2_any v t a b w h ht
 rw [if_neg e2] at hok ⊢
 by_cases e3 : k = 3
 ·rw [if_pos e3] at hok ⊢; subst e3; exact l12Make3_any v t a b w h ht hok
 rw [if_neg e3] at hok ⊢
 by_cases e4 : k = 4
 ·rw [if_pos e4] at hok ⊢
  subst e4
  simp only [Bool.and_eq_true, decide_eq_true_eq] at hok
  exact l12Make4_any v t a b w h ht hok.2.1 (fun i hi => by have := (latT_lt t.ps _ (by omega) t.ps.length).1 hok.2.2 i hi; omega)
 rw [if_neg e4] at hok ⊢
 by_cases e5 : k = 5
 ·rw [if_pos e5] at hok ⊢
  subst e5
  simp only [Bool.and_eq_true, decide_eq_true_eq, inB_iff] at hok
  exact l12Make5_any v t a b w h ht hok.1
 rw [if_neg e5]
 exact l12Make7_any v t k a b w h ht e1 e2 e3 e4 e5 e6
end Go.Proofs.YtdgcohoneijleaaGreatDoor
