import Derived.Test.YtdgcohoneijleaaGreatDoorDi
set_option maxRecDepth 100000
namespace Go.Proofs.YtdgcohoneijleaaGreatDoor
open Go.RowKit
set_option maxHeartbeats 4000000 in
theorem step3f_any (v : Value) (t : To) (a : Int) (w : World) (h : RT No w v t) (ht : tourB t = true) (hc : hasP t a = false) :
  Calls Tryz.prog 62 #[v, stV 3 a 0] w (Ret2 fun v0 v1 w' => v1 = .bool false ∧ TA w.heap.size w' v0 zeroT ∧ Chg No w w') := by
 obtain ⟨k, hk⟩ : ∃ k : Int, k = 3 := ⟨_, rfl⟩
 obtain ⟨b, hb⟩ : ∃ b : Int, b = 0 := ⟨_, rfl⟩
 rw [← hk, ← hb]
 have HC := Lib.hid hc
 clear hc
 obtain ⟨hl1, hl2, hl3, hl4⟩ := tour_len ht
 have h0 := h
 have HT := Lib.hid ht
 obtain ⟨it, ps, rq⟩ := t
 obtain ⟨pv, qv, rfl, hps, hrq⟩ := h
 simp only at hps hrq hl1 hl2 hl3 hl4
 obtain ⟨qa, qc, rfl, _⟩ := id hrq
 obtain ⟨pa, cap, rfl, hcap, hmax, hlen, pf, mf, hl, hcl⟩ := id hps
 obtain ⟨n, hn⟩ : ∃ n, rq.length = n := ⟨_, rfl⟩
 have hW0 := boxes33 (w := w) (t := 31) (t' := 47) (t'' := 31) (x0 := .int .i64 it) (x1 := .slice pa ps.length cap) (x2 := .slice qa n qc) (y0 := .int .i64 k) (y1 := .int .i64 a) (y2 := .int .i64 b) (z0 := .int .i64 0) (z1 := .slice none 0 0) (z2 := .slice none 0 0)
  (R := fun W => Chg No w W ∧ Box3 W w.heap.size (.int .i64 it) (.slice pa ps.length cap) (.slice qa n qc) ∧ Box3 W (w.heap.size + 1) (.int .i64 k) (.int .i64 a) (.int .i64 b) ∧ Box3 W (w.heap.size + 1 + 1) (.int .i64 0) (.slice none 0 0) (.slice none 0 0)) (fun W k b0 b1 b2 => ⟨k, b0, b1, b2⟩)
 obtain ⟨kk, b0, b1, b2⟩ := hW0
 have hn0 : (0 : Int) ≤ (n : Int) := Int.natCast_nonneg _
 rw [hn] at h0 hl2 hrq ⊢
 have HN := Lib.hid hn
 obtain ⟨c0, c1, c2, _⟩ := id b0
 obtain ⟨d0, d1, d2, _⟩ := id b1
 clear hl hcl hps ht hn
 subst hk
 subst hb
 unfold stV
 go_enter Tryz.func62, Tryz.ntmps62
 go_wp2_with fail
 refine (isPlayer_any _ _ a _ (h0.keep kk)).mono ?_
 rintro e w1 ⟨_, rfl, rfl, k3⟩
 rw [HC.out]
 clear c0 c1 c2 d0 d1 d2
 replace b1 := b1.keep k3
 replace b2 := b2.keep k3
 replace kk := kk.keep k3
 obtain ⟨d0, d1, d2, _⟩ := id b1
 obtain ⟨e0, e1, e2, cf⟩ := id b2
 have cf0 := cf 0
 have cf1 := cf 1
 have cf2 := cf 2
 clear cf
 have hb2l := b2.lt
 obtain ⟨z0, z1, z2, _⟩ := ((b2.set0 (.int .i64 0)).set1 (.slice none 0 0)).set2 (.slice none 0 0)
 have HK := Lib.hid (kk.put3 (b := w.heap.size + 1 + 1) (fun h => by omega) (.int .i64 0) (.slice none 0 0) (.slice none 0 0))
 clear kk b2
 go_wp2_with fail
 exact bodyPost_ret (v := .tuple #[.agg #[.int .i64 0, .slice none 0 0, .slice none 0 0], .bool false]) (by simp [results, Tryz.results62, go_sem, z0, z1, z2]) rfl ⟨_, _, rfl, rfl, TA.zero _ _, HK.out⟩
set_option maxHeartbeats 4000000 in
theorem step5f_any (v : Value) (t : To) (a : Int) (w : World) (h : RT No w v t) (ht : tourB t = true) (hc : (inB a 1 t.reqs.length && decide ((t.reqs.length : Int) + a ≤ 60)) = false) :
  Calls Tryz.prog 62 #[v, stV 5 a 0] w (Ret2 fun v0 v1 w' => v1 = .bool false ∧ TA w.heap.size w' v0 zeroT ∧ Chg No w w') := by
 obtain ⟨k, hk⟩ : ∃ k : Int, k = 5 := ⟨_, rfl⟩
 obtain ⟨b, hb⟩ : ∃ b : Int, b = 0 := ⟨_, rfl⟩
 rw [← hk, ← hb]
 have HC := Lib.hid hc
 clear hc
 obtain ⟨hl1, hl2, hl3, hl4⟩ := tour_len ht
 have h0 := h
 have HT := Lib.hid ht
 obtain ⟨it, ps, rq⟩ := t
 obtain ⟨pv, qv, rfl, hps, hrq⟩ := h
 simp only at hps hrq hl1 hl2 hl3 hl4
 obtain ⟨qa, qc, rfl, _⟩ := id hrq
 obtain ⟨pa, cap, rfl, hcap, hmax, hlen, pf, mf, hl, hcl⟩ := id hps
 obtain ⟨n, hn⟩ : ∃ n, rq.length = n := ⟨_, rfl⟩
 have hW0 := boxes33 (w := w) (t := 31) (t' := 47) (t'' := 31) (x0 := .int .i64 it) (x1 := .slice pa ps.length cap) (x2 := .slice qa n qc) (y0 := .int .i64 k) (y1 := .int .i64 a) (y2 := .int .i64 b) (z0 := .int .i64 0) (z1 := .slice none 0 0) (z2 := .slice none 0 0)
  (R := fun W => Chg No w W ∧ Box3 W w.heap.size (.int .i64 it) (.slice pa ps.length cap) (.slice qa n qc) ∧ Box3 W (w.heap.size + 1) (.int .i64 k) (.int .i64 a) (.int .i64 b) ∧ Box3 W (w.heap.size + 1 + 1) (.int .i64 0) (.slice none 0 0) (.slice none 0 0)) (fun W k b0 b1 b2 => ⟨k, b0, b1, b2⟩)
 obtain ⟨kk, b0, b1, b2⟩ := hW0
 have hn0 : (0 : Int) ≤ (n : Int) := Int.natCast_nonneg _
 rw [hn] at h0 hl2 hrq ⊢
 have HN := Lib.hid hn
 obtain ⟨c0, c1, c2, _⟩ := id b0
 obtain ⟨d0, d1, d2, _⟩ := id b1
 clear hl hcl hps ht hn
 subst hk
 subst hb
 unfold stV
 have hC := HC.out
 simp only at hC
 rw [HN.out] at hC
 cases hi : inB a 1 n
 ·have HI := Lib.hid hi
  clear hi hC
  go_enter Tryz.func62, Tryz.ntmps62
  go_wp2_with fail
  refine (within_any _ _ _ _).mono ?_
  rintro e w1 ⟨rfl, rfl⟩
  rw [HI.out]
  go_wp2_with fail
  obtain ⟨z0, z1, z2, _⟩ := id b2
  exact bodyPost_ret (v := .tuple #[.agg #[.int .i64 0, .slice none 0 0, .slice none 0 0], .bool false]) (by simp [results, Tryz.results62, go_sem, z0, z1, z2]) rfl ⟨_, _, rfl, rfl, TA.zero _ _, kk⟩
 ·have HI := Lib.hid hi
  have hin := inB_iff.1 hi
  rw [hi, Bool.true_and] at hC
  have hw1 : IntKind.i64.wrap ((n : Int) + a) = (n : Int) + a := IntWalk.i64_in _ (by omega)
  have hn6 : ¬ (n : Int) + a ≤ 60 := of_decide_eq_false hC
  clear hi hC hin
  go_enter Tryz.func62, Tryz.ntmps62
  go_wp2_with fail
  refine (within_any _ _ _ _).mono ?_
  rintro e w1 ⟨rfl, rfl⟩
  rw [HI.out]
  go_wp2_with fail
  obtain ⟨z0, z1, z2, _⟩ := id b2
  exact bodyPost_ret (v := .tuple #[.agg #[.int .i64 0, .slice none 0 0, .slice none 0 0], .bool false]) (by simp [results, Tryz.results62, go_sem, z0, z1, z2]) rfl ⟨_, _, rfl, rfl, TA.zero _ _, kk⟩
set_option maxHeartbeats 4000000 in
theorem step4_any (v : Value) (t : To) (a : Int) (w : World) (h : RT No w v t) (ht : tourB t = true) (ha : ¬ a = 0) :
  Calls Tryz.prog 62 #[v, stV 4 a 0] w (Ret2 fun v0 v1 w' => v1 = .bool false ∧ TA w.heap.size w' v0 zeroT ∧ Chg No w w') := by
 obtain ⟨k, hk⟩ : ∃ k : Int, k = 4 := ⟨_, rfl⟩
 obtain ⟨b, hb⟩ : ∃ b : Int, b = 0 := ⟨_, rfl⟩
 rw [← hk, ← hb]
 obtain ⟨hl1, hl2, hl3, hl4⟩ := tour_len ht
 have h0 := h
 have HT := Lib.hid ht
 obtain ⟨it, ps, rq⟩ := t
 obtain ⟨pv, qv, rfl, hps, hrq⟩ := h
 simp only at hps hrq hl1 hl2 hl3 hl4
 obtain ⟨qa, qc, rfl, _⟩ := id hrq
 obtain ⟨pa, cap, rfl, hcap, hmax, hlen, pf, mf, hl, hcl⟩ := id hps
 obtain ⟨n, hn⟩ : ∃ n, rq.length = n := ⟨_, rfl⟩
 have hW0 := boxes33 (w := w) (t := 31) (t' := 47) (t'' := 31) (x0 := .int .i64 it) (x1 := .slice pa ps.length cap) (x2 := .slice qa n qc) (y0 := .int .i64 k) (y1 := .int .i64 a) (y2 := .int .i64 b) (z0 := .int .i64 0) (z1 := .slice none 0 0) (z2 := .slice none 0 0)
  (R := fun W => Chg No w W ∧ Box3 W w.heap.size (.int .i64 it) (.slice pa ps.length cap) (.slice qa n qc) ∧ Box3 W (w.heap.size + 1) (.int .i64 k) (.int .i64 a) (.int .i64 b) ∧ Box3 W (w.heap.size + 1 + 1) (.int .i64 0) (.slice none 0 0) (.slice none 0 0)) (fun W k b0 b1 b2 => ⟨k, b0, b1, b2⟩)
 obtain ⟨kk, b0, b1, b2⟩ := hW0
 have hn0 : (0 : Int) ≤ (n : Int) := Int.natCast_nonneg _
 rw [hn] at h0 hl2 hrq ⊢
 have HN := Lib.hid hn
 obtain ⟨c0, c1, c2, _⟩ := id b0
 obtain ⟨d0, d1, d2, _⟩ := id b1
 clear hl hcl hps ht hn
 subst hk
 subst hb
 unfold stV
 go_enter Tryz.func62, Tryz.ntmps62
 go_wp2_with fail
 obtain ⟨z0, z1, z2, _⟩ := id b2
 exact bodyPost_ret (v := .tuple #[.agg #[.int .i64 0, .slice none 0 0, .slice none 0 0], .bool false]) (by simp [results, Tryz.results62, go_sem, z0, z1, z2]) rfl ⟨_, _, rfl, rfl, TA.zero _ _, kk⟩
set_option maxHeartbeats 4000000 in
theorem step4u_any (v : Value) (t : To) (w : World) (h : RT No w v t) (ht : tourB t = true) (ok : Bool) (hO : okUndo t = ok) (tv : To) (hV : undoV t = tv) :
  Calls Tryz.prog 62 #[v, stV 4 0 0] w (Ret2 fun v0 v1 w' => v1 = .bool ok ∧ TA w.heap.size w' v0 tv ∧ Chg No w w') := by
 obtain ⟨k, hk⟩ : ∃ k : Int, k = 4 := ⟨_, rfl⟩
 obtain ⟨a, ha⟩ : ∃ a : Int, a = 0 := ⟨_, rfl⟩
 obtain ⟨b, hb⟩ : ∃ b : Int, b = 0 := ⟨_, rfl⟩
 rw [← hk]
 have HO := Lib.hid hO
 have HV := Lib.hid hV
 clear hO hV
 have hst : stV k 0 0 = stV k a b := by rw [ha, hb]
 rw [hst]
 clear hst
 obtain ⟨hl1, hl2, hl3, hl4⟩ := tour_len ht
 have h0 := h
 have HT := Lib.hid ht
 obtain ⟨it, ps, rq⟩ := t
 obtain ⟨pv, qv, rfl, hps, hrq⟩ := h
 simp only at hps hrq hl1 hl2 hl3 hl4
 obtain ⟨qa, qc, rfl, _⟩ := id hrq
 obtain ⟨pa, cap, rfl, hcap, hmax, hlen, pf, mf, hl, hcl⟩ := id hps
 obtain ⟨n, hn⟩ : ∃ n, rq.length = n := ⟨_, rfl⟩
 have hW0 := boxes33 (w := w) (t := 31) (t' := 47) (t'' := 31) (x0 := .int .i64 it) (x1 := .slice pa ps.length cap) (x2 := .slice qa n qc) (y0 := .int .i64 k) (y1 := .int .i64 a) (y2 := .int .i64 b) (z0 := .int .i64 0) (z1 := .slice none 0 0) (z2 := .slice none 0 0)
  (R := fun W => Chg No w W ∧ Box3 W w.heap.size (.int .i64 it) (.slice pa ps.length cap) (.slice qa n qc) ∧ Box3 W (w.heap.size + 1) (.int .i64 k) (.int .i64 a) (.int .i64 b) ∧ Box3 W (w.heap.size + 1 + 1) (.int .i64 0) (.slice none 0 0) (.slice none 0 0)) (fun W k b0 b1 b2 => ⟨k, b0, b1, b2⟩)
 obtain ⟨kk, b0, b1, b2⟩ := hW0
 have hn0 : (0 : Int) ≤ (n : Int) := Int.natCast_nonneg _
 rw [hn] at h0 hl2 hrq ⊢
 have HN := Lib.hid hn
 obtain ⟨c0, c1, c2, _⟩ := id b0
 obtain ⟨d0, d1, d2, _⟩ := id b1
 clear hl hcl hps ht hn
 subst hk
 subst hb
 subst ha
 unfold stV
 go_enter Tryz.func62, Tryz.ntmps62
 go_wp2_with fail
 refine (undo_any _ _ _ (h0.keep kk) HT.out).mono ?_
 rintro e w3 ⟨v3, v4, rfl, rfl, hTA, k3⟩
 rw [HV.out] at hTA
 rw [HO.out]
 clear c0 c1 c2 d0 d1 d2
 have hs0 := b2.lt
 replace b2 := b2.keep k3
 replace kk := kk.keep k3
 obtain ⟨e0, e1, e2, cf⟩ := id b2
 have cf0 := cf 0
 have cf1 := cf 1
 have cf2 := cf 2
 clear cf
 have hb2l := b2.lt
 obtain ⟨iN, p1, p2, p3, r1, r2, r3, rfl, hTN⟩ := hTA.put3 (b := w.heap.size + 1 + 1) (by omega)
 obtain ⟨z0, z1, z2, _⟩ := ((b2.set0 (.int .i64 iN)).set1 (.slice p1 p2 p3)).set2 (.slice r1 r2 r3)
 have HK := Lib.hid (kk.put3 (b := w.heap.size + 1 + 1) (fun h => by omega) (.int .i64 iN) (.slice p1 p2 p3) (.slice r1 r2 r3))
 have HTN := Lib.hid (hTN.weak (base' := w.heap.size) (by omega))
 clear hTA hTN kk b2
 go_wp2_with fail
 exact bodyPost_ret (v := .tuple #[.agg #[.int .i64 iN, .slice p1 p2 p3, .slice r1 r2 r3], .bool ok]) (by simp [results, Tryz.results62, go_sem, z0, z1, z2]) rfl ⟨_, _, rfl, rfl, HTN.out, HK.out⟩
set_option maxHeartbeats 4000000 in
theorem step7_any (v : Value) (t : To) (a : Int) (w : World) (h : RT No w v t) (ht : tourB t = true) (ha : ¬ a = 0) :
  Calls Tryz.prog 62 #[v, stV 7 a 0] w (Ret2 fun v0 v1 w' => v1 = .bool false ∧ TA w.heap.size w' v0 zeroT ∧ Chg No w w') := by
 obtain ⟨k, hk⟩ : ∃ k : Int, k = 7 := ⟨_, rfl⟩
 obtain ⟨b, hb⟩ : ∃ b : Int, b = 0 := ⟨_, rfl⟩
 rw [← hk, ← hb]
 obtain ⟨hl1, hl2, hl3, hl4⟩ := tour_len ht
 have h0 := h
 have HT := Lib.hid ht
 obtain ⟨it, ps, rq⟩ := t
 obtain ⟨pv, qv, rfl, hps, hrq⟩ := h
 simp only at hps hrq hl1 hl2 hl3 hl4
 obtain ⟨qa, qc, rfl, _⟩ := id hrq
 obtain ⟨pa, cap, rfl, hcap, hmax, hlen, pf, mf, hl, hcl⟩ := id hps
 obtain ⟨n, hn⟩ : ∃ n, rq.length = n := ⟨_, rfl⟩
 have hW0 := boxes33 (w := w) (t := 31) (t' := 47) (t'' := 31) (x0 := .int .i64 it) (x1 := .slice pa ps.length cap) (x2 := .slice qa n qc) (y0 := .int .i64 k) (y1 := .int .i64 a) (y2 := .int .i64 b) (z0 := .int .i64 0) (z1 := .slice none 0 0) (z2 := .slice none 0 0)
  (R := fun W => Chg No w W ∧ Box3 W w.heap.size (.int .i64 it) (.slice pa ps.length cap) (.slice qa n qc) ∧ Box3 W (w.heap.size + 1) (.int .i64 k) (.int .i64 a) (.int .i64 b) ∧ Box3 W (w.heap.size + 1 + 1) (.int .i64 0) (.slice none 0 0) (.slice none 0 0)) (fun W k b0 b1 b2 => ⟨k, b0, b1, b2⟩)
 obtain ⟨kk, b0, b1, b2⟩ := hW0
 have hn0 : (0 : Int) ≤ (n : Int) := Int.natCast_nonneg _
 rw [hn] at h0 hl2 hrq ⊢
 have HN := Lib.hid hn
 obtain ⟨c0, c1, c2, _⟩ := id b0
 obtain ⟨d0, d1, d2, _⟩ := id b1
 clear hl hcl hps ht hn
 subst hk
 subst hb
 unfold stV
 go_enter Tryz.func62, Tryz.ntmps62
 go_wp2_with fail
 obtain ⟨z0, z1, z2, _⟩ := id b2
 exact bodyPost_ret (v := .tuple #[.agg #[.int .i64 0, .slice none 0 0, .slice none 0 0], .bool false]) (by simp [results, Tryz.results62, go_sem, z0, z1, z2]) rfl ⟨_, _, rfl, rfl, TA.zero _ _, kk⟩
set_option maxHeartbeats 4000000 in
theorem step7c_any (v : Value) (t : To) (w : World) (h : RT No w v t) (ht : tourB t = true) :
  Calls Tryz.prog 62 #[v, stV 7 0 0] w (Ret2 fun v0 v1 w' => v1 = .bool true ∧ TA w.heap.size w' v0 ⟨t.items, clearP t.ps, []⟩ ∧ Chg No w w') := by
 obtain ⟨k, hk⟩ : ∃ k : Int, k = 7 := ⟨_, rfl⟩
 obtain ⟨a, ha⟩ : ∃ a : Int, a = 0 := ⟨_, rfl⟩
 obtain ⟨b, hb⟩ : ∃ b : Int, b = 0 := ⟨_, rfl⟩
 rw [← hk]
 have hst : stV k 0 0 = stV k a b := by rw [ha, hb]
 rw [hst]
 clear hst
 obtain ⟨hl1, hl2, hl3, hl4⟩ := tour_len ht
 have h0 := h
 have HT := Lib.hid ht
 obtain ⟨it, ps, rq⟩ := t
 obtain ⟨pv, qv, rfl, hps, hrq⟩ := h
 simp only at hps hrq hl1 hl2 hl3 hl4
 obtain ⟨qa, qc, rfl, _⟩ := id hrq
 obtain ⟨pa, cap, rfl, hcap, hmax, hlen, pf, mf, hl, hcl⟩ := id hps
 obtain ⟨n, hn⟩ : ∃ n, rq.length = n := ⟨_, rfl⟩
 have hW0 := boxes33 (w := w) (t := 31) (t' := 47) (t'' := 31) (x0 := .int .i64 it) (x1 := .slice pa ps.length cap) (x2 := .slice qa n qc) (y0 := .int .i64 k) (y1 := .int .i64 a) (y2 := .int .i64 b) (z0 := .int .i64 0) (z1 := .slice none 0 0) (z2 := .slice none 0 0)
  (R := fun W => Chg No w W ∧ Box3 W w.heap.size (.int .i64 it) (.slice pa ps.length cap) (.slice qa n qc) ∧ Box3 W (w.heap.size + 1) (.int .i64 k) (.int .i64 a) (.int .i64 b) ∧ Box3 W (w.heap.size + 1 + 1) (.int .i64 0) (.slice none 0 0) (.slice none 0 0)) (fun W k b0 b1 b2 => ⟨k, b0, b1, b2⟩)
 obtain ⟨kk, b0, b1, b2⟩ := hW0
 have hn0 : (0 : Int) ≤ (n : Int) := Int.natCast_nonneg _
 rw [hn] at h0 hl2 hrq ⊢
 have HN := Lib.hid hn
 obtain ⟨c0, c1, c2, _⟩ := id b0
 obtain ⟨d0, d1, d2, _⟩ := id b1
 clear hl hcl hps ht hn
 subst hk
 subst hb
 subst ha
 unfold stV
 have HSV := Lib.hid (fun i hi => (sv_of HT.out i hi).2)
 go_enter Tryz.func62, Tryz.ntmps62
 go_wp2_with fail
 refine (cleared_any _ _ _ (h0.keep kk) HSV.out).mono ?_
 rintro e w3 ⟨v3, rfl, hTA, k3⟩
 clear c0 c1 c2 d0 d1 d2
 have hs0 := b2.lt
 replace b2 := b2.keep k3
 replace kk := kk.keep k3
 obtain ⟨e0, e1, e2, cf⟩ := id b2
 have cf0 := cf 0
 have cf1 := cf 1
 have cf2 := cf 2
 clear cf
 have hb2l := b2.lt
 obtain ⟨iN, p1, p2, p3, r1, r2, r3, rfl, hTN⟩ := hTA.put3 (b := w.heap.size + 1 + 1) (by omega)
 obtain ⟨z0, z1, z2, _⟩ := ((b2.set0 (.int .i64 iN)).set1 (.slice p1 p2 p3)).set2 (.slice r1 r2 r3)
 have HK := Lib.hid (kk.put3 (b := w.heap.size + 1 + 1) (fun h => by omega) (.int .i64 iN) (.slice p1 p2 p3) (.slice r1 r2 r3))
 have HTN := Lib.hid (hTN.weak (base' := w.heap.size) (by omega))
 clear hTA hTN kk b2
 go_wp2_with fail
 exact bodyPost_ret (v := .tuple #[.agg #[.int .i64 iN, .slice p1 p2 p3, .slice r1 r2 r3], .bool true]) (by simp [results, Tryz.results62, go_sem, z0, z1, z2]) rfl ⟨_, _, rfl, rfl, HTN.out, HK.out⟩
set_option maxHeartbeats 4000000 in
theorem step0_any (v : Value) (t : To) (k a : Int) (w : World) (h : RT No w v t) (ht : tourB t = true) (e1 : ¬ k = 1) (e2 : ¬ k = 2) (e3 : ¬ k = 3) (e4 : ¬ k = 4) (e5 : ¬ k = 5) (e6 : ¬ k = 6) (e7 : ¬ k = 7) :
  Calls Tryz.prog 62 #[v, stV k a 0] w (Ret2 fun v0 v1 w' => v1 = .bool false ∧ TA w.heap.size w' v0 zeroT ∧ Chg No w w') := by
 obtain ⟨b, hb⟩ : ∃ b : Int, b = 0 := ⟨_, rfl⟩
 rw [← hb]
 obtain ⟨hl1, hl2, hl3, hl4⟩ := tour_len ht
 have h0 := h
 have HT := Lib.hid ht
 obtain ⟨it, ps, rq⟩ := t
 obtain ⟨pv, qv, rfl, hps, hrq⟩ := h
 simp only at hps hrq hl1 hl2 hl3 hl4
 obtain ⟨qa, qc, rfl, _⟩ := id hrq
 obtain ⟨pa, cap, rfl, hcap, hmax, hlen, pf, mf, hl, hcl⟩ := id hps
 obtain ⟨n, hn⟩ : ∃ n, rq.length = n := ⟨_, rfl⟩
 have hW0 := boxes33 (w := w) (t := 31) (t' := 47) (t'' := 31) (x0 := .int .i64 it) (x1 := .slice pa ps.length cap) (x2 := .slice qa n qc) (y0 := .int .i64 k) (y1 := .int .i64 a) (y2 := .int .i64 b) (z0 := .int .i64 0) (z1 := .slice none 0 0) (z2 := .slice none 0 0)
  (R := fun W => Chg No w W ∧ Box3 W w.heap.size (.int .i64 it) (.slice pa ps.length cap) (.slice qa n qc) ∧ Box3 W (w.heap.size + 1) (.int .i64 k) (.int .i64 a) (.int .i64 b) ∧ Box3 W (w.heap.size + 1 + 1) (.int .i64 0) (.slice none 0 0) (.slice none 0 0)) (fun W k b0 b1 b2 => ⟨k, b0, b1, b2⟩)
 obtain ⟨kk, b0, b1, b2⟩ := hW0
 have hn0 : (0 : Int) ≤ (n : Int) := Int.natCast_nonneg _
 rw [hn] at h0 hl2 hrq ⊢
 have HN := Lib.hid hn
 obtain ⟨c0, c1, c2, _⟩ := id b0
 obtain ⟨d0, d1, d2, _⟩ := id b1
 clear hl hcl hps ht hn
 subst hb
 unfold stV
 go_enter Tryz.func62, Tryz.ntmps62
 go_wp2_with fail
 obtain ⟨z0, z1, z2, _⟩ := id b2
 exact bodyPost_ret (v := .tuple #[.agg #[.int .i64 0, .slice none 0 0, .slice none 0 0], .bool false]) (by simp [results, Tryz.results62, go_sem, z0, z1, z2]) rfl ⟨_, _, rfl, rfl, TA.zero _ _, kk⟩
end Go.Proofs.YtdgcohoneijleaaGreatDoor
namespace Go.Proofs.YtdgcohoneijleaaGreatDoor
open Go.RowKit
set_option maxHeartbeats 4000000 in
theorem step3t_any (v : Value) (t : To) (x : Nat) (w : World) (h : RT No w v t) (ht : tourB t = true) (hx : x < t.ps.length) (hc : hasP t (x : Int) = true) :
  Calls Tryz.prog 62 #[v, stV 3 (x : Int) 0] w (Ret2 fun v0 v1 w' => v1 = .bool true ∧ TA w.heap.size w' v0 (leaveT t (x : Int)) ∧ Chg No w w') := by
 obtain ⟨k, hk⟩ : ∃ k : Int, k = 3 := ⟨_, rfl⟩
 obtain ⟨b, hb⟩ : ∃ b : Int, b = 0 := ⟨_, rfl⟩
 obtain ⟨a, ha⟩ : ∃ a : Int, a = (x : Int) := ⟨_, rfl⟩
 rw [← ha] at hc
 rw [← hk, ← hb, ← ha]
 have HC := Lib.hid hc
 have HS := Lib.hid (sv_of ht)
 clear hc
 obtain ⟨hl1, hl2, hl3, hl4⟩ := tour_len ht
 have h0 := h
 have HT := Lib.hid ht
 obtain ⟨it, ps, rq⟩ := t
 obtain ⟨pv, qv, rfl, hps, hrq⟩ := h
 simp only at hps hrq hl1 hl2 hl3 hl4
 obtain ⟨qa, qc, rfl, _⟩ := id hrq
 obtain ⟨pa, cap, rfl, hcap, hmax, hlen, pf, mf, hl, hcl⟩ := id hps
 obtain ⟨n, hn⟩ : ∃ n, rq.length = n := ⟨_, rfl⟩
 have hW0 := boxes33 (w := w) (t := 31) (t' := 47) (t'' := 31) (x0 := .int .i64 it) (x1 := .slice pa ps.length cap) (x2 := .slice qa n qc) (y0 := .int .i64 k) (y1 := .int .i64 a) (y2 := .int .i64 b) (z0 := .int .i64 0) (z1 := .slice none 0 0) (z2 := .slice none 0 0)
  (R := fun W => Chg No w W ∧ Box3 W w.heap.size (.int .i64 it) (.slice pa ps.length cap) (.slice qa n qc) ∧ Box3 W (w.heap.size + 1) (.int .i64 k) (.int .i64 a) (.int .i64 b) ∧ Box3 W (w.heap.size + 1 + 1) (.int .i64 0) (.slice none 0 0) (.slice none 0 0)) (fun W k b0 b1 b2 => ⟨k, b0, b1, b2⟩)
 obtain ⟨kk, b0, b1, b2⟩ := hW0
 have hn0 : (0 : Int) ≤ (n : Int) := Int.natCast_nonneg _
 rw [hn] at h0 hl2 hrq ⊢
 have HN := Lib.hid hn
 obtain ⟨c0, c1, c2, _⟩ := id b0
 obtain ⟨d0, d1, d2, _⟩ := id b1
 clear hl hcl hps ht hn
 subst hk
 subst hb
 subst ha
 simp only at hx HS
 unfold stV
 have hw1 : IntKind.i64.wrap ((x : Int) + 1) = (x : Int) + 1 := IntWalk.i64_in _ (by omega)
 have hrqw : RI No w (.slice qa n qc) rq := hrq
 go_enter Tryz.func62, Tryz.ntmps62
 go_wp2_with fail
 refine (isPlayer_any _ _ (x : Int) _ (h0.keep kk)).mono ?_
 rintro e w1 ⟨_, rfl, rfl, k3⟩
 rw [HC.out]
 clear c0 c1 c2 d0 d1 d2
 replace b0 := b0.keep k3
 replace b1 := b1.keep k3
 replace b2 := b2.keep k3
 replace kk := kk.keep k3
 clear k3
 obtain ⟨c0, c1, c2, _⟩ := id b0
 obtain ⟨d0, d1, d2, _⟩ := id b1
 go_wp2_with fail
 refine (again_any _ _ ⟨it, ps, rq⟩ rq w1 (h0.keep kk) (hrqw.keep kk) HS.out).mono ?_
 rintro e w2 ⟨v2, rfl, ⟨pv2, pg, mg, rv2, rfl, hP, hR, hd⟩, k2⟩
 simp only at hP hR hd ⊢
 obtain ⟨L0, hL0⟩ : ∃ L0, againP ps rq = L0 := ⟨_, rfl⟩
 have hLn : L0.length = ps.length := by rw [← hL0, againP_len]
 have HL0 := Lib.hid hL0
 rw [hL0] at hP hd
 clear c0 c1 c2 d0 d1 d2 hL0
 obtain ⟨oa, oc, rfl, hcp, _, _, hv⟩ := hP.os.view
 obtain ⟨ya, yn, yc, rfl⟩ := hR.shape
 obtain ⟨m, hm⟩ : ∃ m, L0.length = m + 1 := ⟨L0.length - 1, by omega⟩
 have him : x ≤ m := by omega
 have hm4 : m ≤ 4 := by omega
 have HLM := Lib.hid hm
 obtain ⟨g, rfl, hg1, hg2, _⟩ := hv (by omega)
 clear hv
 have hsz1 := b2.lt
 replace kk := kk.keep k2
 replace b1 := b1.keep k2
 replace b2 := b2.keep k2
 have hone := hP.one (m + 1) (by omega)
 rw [hm] at hd ⊢
 have hP' := hP
 have hos := hP.os
 rw [hm] at hos hP
 obtain ⟨d0, d1, d2, _⟩ := id b1
 have hB7 := Box3.new w2 (.int .i64 it) (.slice (some ⟨g, 0, none⟩) (m + 1) oc) (.slice ya yn yc) 31
 have ka := (Chg.refl No w2).alloc (.cells #[.int .i64 it, .slice (some ⟨g, 0, none⟩) (m + 1) oc, .slice ya yn yc] 31)
 obtain ⟨d0, d1, d2, _⟩ := b1.keep ka
 obtain ⟨f0, f1, f2, _⟩ := id hB7
 go_wp2_with fail
 clear d0 d1 d2 f0 f1 f2
 obtain ⟨B7, hB⟩ : ∃ B7, w2.heap.size = B7 := ⟨_, rfl⟩
 have hb2' := b2.keep ka
 have kk' := kk.keep ka
 have hR' := hR.keep ka
 have hos' := hos.keep ka
 have hsz2 := k2.size
 generalize w2.alloc (.cells #[.int .i64 it, .slice (some ⟨g, 0, none⟩) (m + 1) oc, .slice ya yn yc] 31) = W3 at ka hB7 hb2' kk' hR' hos' ⊢
 refine (DeleteP_os _ g m oc x _ W3 hos' him (by omega) hone).mono ?_
 rintro e w4 ⟨_, rfl, rfl, o4, k4⟩
 have kx : Chg (fun q => q = g) w2 w4 := (ka.mono (fun q e _ => e.elim)).trans k4
 have hPe := hP'.erase (i := x) HLM.out him o4 kx (fun q e => .inl (own_slice.2 e)) (fun q e => .inl (own_slice.2 (own_slice.1 e)))
 have hle : (L0.eraseIdx x).length = m := by rw [List.length_eraseIdx, HLM.out, if_pos (by omega)]; omega
 have hgR : ¬ own (.slice ya yn yc) g := hd g (.inl (own_slice.2 rfl))
 have hFe : ∀ q, FA (.slice (some ⟨g, 0, none⟩) m oc) m (fun k => pg (sg x k)) (fun k => mg (sg x k)) q → ¬ own (.slice ya yn yc) q := fun q hq => by
  rcases FA.erase (v := .slice (some ⟨g, 0, none⟩) (m + 1) oc) (b := q + 1) (fun e => .inl (own_slice.2 (own_slice.1 e))) hq with e | e
  ·exact hd q e
  ·omega
 have b7 := hB7.step k4 (fun e => by have e : w2.heap.size = g := e; omega)
 replace hb2' := hb2'.step k4 (fun e => by have e : w.heap.size + 1 + 1 = g := e; have := b2.lt; omega)
 replace kk' := kk'.step k4 (fun q e hl => by have e : q = g := e; omega)
 replace hR' := hR'.step k4 (fun q hq e => hgR (by have e : q = g := e; exact e ▸ hq))
 rw [hB] at b7 ⊢
 have cN : Chg (fun q => q = B7) w4 (w4.setCell ⟨B7, 1, none⟩ (.slice (some ⟨g, 0, none⟩) m oc)) := (Chg.refl (fun q => q = B7) w4).setCell (p := ⟨B7, 1, none⟩) (fun _ => rfl) _
 have hb71 := b7.c1
 have hb7f := b7.fr 1
 obtain ⟨d0, d1, d2, _⟩ := b7.set1 (.slice (some ⟨g, 0, none⟩) m oc)
 have hHP := hPe.step cN (fun q hq e => by
  have e : q = B7 := e
  rcases FA.erase (v := .slice (some ⟨g, 0, none⟩) (m + 1) oc) (b := q + 1) (fun e => .inl (own_slice.2 (own_slice.1 e))) (by rw [hle] at hq; exact hq) with e2 | e2
  ·have := (hP.inF q (by rw [HLM.out]; exact e2)).2; omega
  ·omega)
 replace hb2' := hb2'.step cN (fun e => by have e : w.heap.size + 1 + 1 = B7 := e; have := b2.lt; omega)
 replace kk' := kk'.step cN (fun q e hl => by have e : q = B7 := e; omega)
 replace hR' := hR'.step cN (fun q hq e => by have e : q = B7 := e; have := (hR.lt q hq).2; omega)
 obtain ⟨WS, hWS⟩ : ∃ WS, w4.setCell ⟨B7, 1, none⟩ (.slice (some ⟨g, 0, none⟩) m oc) = WS := ⟨_, rfl⟩
 have HWS := Lib.hid hWS
 rw [hWS] at hHP kk' hb2' hR' d0 d1 d2
 have hTA : TA w1.heap.size WS (.agg #[.int .i64 it, .slice (some ⟨g, 0, none⟩) m oc, .slice ya yn yc]) (leaveT ⟨it, ps, rq⟩ (x : Int)) := by
  unfold leaveT
  simp only [HL0.out]
  rw [show (x : Int).toNat = x by omega]
  exact ⟨_, _, _, _, rfl, hHP, hR', fun q hq => hFe q (by rw [hle] at hq; exact hq)⟩
 have hTS := hTA.stepB (b := w.heap.size + 1 + 1) (by omega) (.int .i64 it) (.slice (some ⟨g, 0, none⟩) m oc) (.slice ya yn yc)
 obtain ⟨e0, e1, e2, cf⟩ := id hb2'
 have cf0 := cf 0
 have cf1 := cf 1
 have cf2 := cf 2
 clear cf
 obtain ⟨z0, z1, z2, _⟩ := ((hb2'.set0 (.int .i64 it)).set1 (.slice (some ⟨g, 0, none⟩) m oc)).set2 (.slice ya yn yc)
 have HK := Lib.hid (kk'.put3 (b := w.heap.size + 1 + 1) (fun h => by omega) (.int .i64 it) (.slice (some ⟨g, 0, none⟩) m oc) (.slice ya yn yc))
 have HTN := Lib.hid (hTS.weak (base' := w.heap.size) (by omega))
 clear hTA hTS hHP hPe o4 k4 kx ka hB7 b7 hb2' kk' hR' hos' hos hP hP' hR hd hone hFe hgR b0 b1 b2 kk k2 hle cN
 go_wp2_with fail
 exact bodyPost_ret (v := .tuple #[.agg #[.int .i64 it, .slice (some ⟨g, 0, none⟩) m oc, .slice ya yn yc], .bool true]) (by simp [results, Tryz.results62, go_sem, z0, z1, z2]) rfl ⟨_, _, rfl, rfl, HTN.out, HK.out⟩
end Go.Proofs.YtdgcohoneijleaaGreatDoor
