import Derived.Test.YtodnkkmjjlfoiaaGreatDi
/- a step (program): the rest -/
namespace Go.Proofs.YtodnkkmjjlfoiaaGreat
open Go.RowKit

set_option maxRecDepth 100000 in
set_option maxHeartbeats 4000000 in
theorem step3f_any (v : Value) (t : To) (a : Int) (w : World) (h : RT No w v t) (ht : tourB t = true) (hc : hasP t a = false) :
    Calls Tryz.prog 48 #[v, stV 3 a 0] w (Ret2 fun v0 v1 w' => v1 = .bool false ∧ TA w.heap.size w' v0 zeroT ∧ Chg No w w') := by
  obtain ⟨k, hk⟩ : ∃ k : Int, k = 3 := ⟨_, rfl⟩
  obtain ⟨b, hb⟩ : ∃ b : Int, b = 0 := ⟨_, rfl⟩
  rw [← hk, ← hb]
  have HC := Lib.hid hc
  clear hc
  obtain ⟨hl1, hl2, hl3, hl4⟩ := tour_len ht
  have h0 := h
  have HT := Lib.hid ht
  obtain ⟨it, ps, rq⟩ := t
  obtain ⟨pv, qv, rfl, hps, hrq⟩ := h
  simp only at hps hrq hl1 hl2 hl3 hl4
  obtain ⟨qa, qc, rfl, _⟩ := id hrq
  obtain ⟨pa, cap, rfl, hcap, hmax, hlen, pf, mf, hl, hcl⟩ := id hps
  obtain ⟨n, hn⟩ : ∃ n, rq.length = n := ⟨_, rfl⟩
  have hW0 := boxes33 (w := w) (t := 31) (t' := 49) (t'' := 31) (x0 := .int .i64 it) (x1 := .slice pa ps.length cap) (x2 := .slice qa n qc) (y0 := .int .i64 k) (y1 := .int .i64 a) (y2 := .int .i64 b) (z0 := .int .i64 0) (z1 := .slice none 0 0) (z2 := .slice none 0 0)
    (R := fun W => Chg No w W ∧ Box3 W w.heap.size (.int .i64 it) (.slice pa ps.length cap) (.slice qa n qc) ∧ Box3 W (w.heap.size + 1) (.int .i64 k) (.int .i64 a) (.int .i64 b) ∧ Box3 W (w.heap.size + 1 + 1) (.int .i64 0) (.slice none 0 0) (.slice none 0 0)) (fun W k b0 b1 b2 => ⟨k, b0, b1, b2⟩)
  obtain ⟨kk, b0, b1, b2⟩ := hW0
  have hn0 : (0 : Int) ≤ (n : Int) := Int.natCast_nonneg _
  rw [hn] at h0 hl2 hrq ⊢
  have HN := Lib.hid hn
  obtain ⟨c0, c1, c2, _⟩ := id b0
  obtain ⟨d0, d1, d2, _⟩ := id b1
  clear hl hcl hps ht hn
  subst hk
  subst hb
  unfold stV
  go_enter Tryz.func48, Tryz.ntmps48
  go_wp2_with fail
  refine (isPlayer_any _ _ a _ (h0.keep kk)).mono ?_
  rintro e w1 ⟨_, rfl, rfl, k3⟩
  rw [HC.out]
  clear c0 c1 c2 d0 d1 d2
  replace b1 := b1.keep k3
  replace b2 := b2.keep k3
  replace kk := kk.keep k3
  obtain ⟨d0, d1, d2, _⟩ := id b1
  obtain ⟨e0, e1, e2, cf⟩ := id b2
  have cf0 := cf 0
  have cf1 := cf 1
  have cf2 := cf 2
  clear cf
  have hb2l := b2.lt
  obtain ⟨z0, z1, z2, _⟩ := ((b2.set0 (.int .i64 0)).set1 (.slice none 0 0)).set2 (.slice none 0 0)
  have HK := Lib.hid (kk.put3 (b := w.heap.size + 1 + 1) (fun h => by omega) (.int .i64 0) (.slice none 0 0) (.slice none 0 0))
  clear kk b2
  go_wp2_with fail
  exact bodyPost_ret (v := .tuple #[.agg #[.int .i64 0, .slice none 0 0, .slice none 0 0], .bool false]) (by simp [results, Tryz.results48, go_sem, z0, z1, z2]) rfl ⟨_, _, rfl, rfl, TA.zero _ _, HK.out⟩
set_option maxRecDepth 100000 in
set_option maxHeartbeats 4000000 in
theorem step5f_any (v : Value) (t : To) (a : Int) (w : World) (h : RT No w v t) (ht : tourB t = true) (hc : (inB a 1 t.reqs.length && decide ((t.reqs.length : Int) + a ≤ 60)) = false) :
    Calls Tryz.prog 48 #[v, stV 5 a 0] w (Ret2 fun v0 v1 w' => v1 = .bool false ∧ TA w.heap.size w' v0 zeroT ∧ Chg No w w') := by
  obtain ⟨k, hk⟩ : ∃ k : Int, k = 5 := ⟨_, rfl⟩
  obtain ⟨b, hb⟩ : ∃ b : Int, b = 0 := ⟨_, rfl⟩
  rw [← hk, ← hb]
  have HC := Lib.hid hc
  clear hc
  obtain ⟨hl1, hl2, hl3, hl4⟩ := tour_len ht
  have h0 := h
  have HT := Lib.hid ht
  obtain ⟨it, ps, rq⟩ := t
  obtain ⟨pv, qv, rfl, hps, hrq⟩ := h
  simp only at hps hrq hl1 hl2 hl3 hl4
  obtain ⟨qa, qc, rfl, _⟩ := id hrq
  obtain ⟨pa, cap, rfl, hcap, hmax, hlen, pf, mf, hl, hcl⟩ := id hps
  obtain ⟨n, hn⟩ : ∃ n, rq.length = n := ⟨_, rfl⟩
  have hW0 := boxes33 (w := w) (t := 31) (t' := 49) (t'' := 31) (x0 := .int .i64 it) (x1 := .slice pa ps.length cap) (x2 := .slice qa n qc) (y0 := .int .i64 k) (y1 := .int .i64 a) (y2 := .int .i64 b) (z0 := .int .i64 0) (z1 := .slice none 0 0) (z2 := .slice none 0 0)
    (R := fun W => Chg No w W ∧ Box3 W w.heap.size (.int .i64 it) (.slice pa ps.length cap) (.slice qa n qc) ∧ Box3 W (w.heap.size + 1) (.int .i64 k) (.int .i64 a) (.int .i64 b) ∧ Box3 W (w.heap.size + 1 + 1) (.int .i64 0) (.slice none 0 0) (.slice none 0 0)) (fun W k b0 b1 b2 => ⟨k, b0, b1, b2⟩)
  obtain ⟨kk, b0, b1, b2⟩ := hW0
  have hn0 : (0 : Int) ≤ (n : Int) := Int.natCast_nonneg _
  rw [hn] at h0 hl2 hrq ⊢
  have HN := Lib.hid hn
  obtain ⟨c0, c1, c2, _⟩ := id b0
  obtain ⟨d0, d1, d2, _⟩ := id b1
  clear hl hcl hps ht hn
  subst hk
  subst hb
  unfold stV
  have hC := HC.out
  simp only at hC
  rw [HN.out] at hC
  cases hi : inB a 1 n
  · have HI := Lib.hid hi
    clear hi hC
    go_enter Tryz.func48, Tryz.ntmps48
    go_wp2_with fail
    refine (within_any _ _ _ _).mono ?_
    rintro e w1 ⟨rfl, rfl⟩
    rw [HI.out]
    go_wp2_with fail
    obtain ⟨z0, z1, z2, _⟩ := id b2
    exact bodyPost_ret (v := .tuple #[.agg #[.int .i64 0, .slice none 0 0, .slice none 0 0], .bool false]) (by simp [results, Tryz.results48, go_sem, z0, z1, z2]) rfl ⟨_, _, rfl, rfl, TA.zero _ _, kk⟩
  · have HI := Lib.hid hi
    have hin := inB_iff.1 hi
    rw [hi, Bool.true_and] at hC
    have hw1 : IntKind.i64.wrap ((n : Int) + a) = (n : Int) + a := IntWalk.i64_in _ (by omega)
    have hn6 : ¬ (n : Int) + a ≤ 60 := of_decide_eq_false hC
    clear hi hC hin
    go_enter Tryz.func48, Tryz.ntmps48
    go_wp2_with fail
    refine (within_any _ _ _ _).mono ?_
    rintro e w1 ⟨rfl, rfl⟩
    rw [HI.out]
    go_wp2_with fail
    obtain ⟨z0, z1, z2, _⟩ := id b2
    exact bodyPost_ret (v := .tuple #[.agg #[.int .i64 0, .slice none 0 0, .slice none 0 0], .bool false]) (by simp [results, Tryz.results48, go_sem, z0, z1, z2]) rfl ⟨_, _, rfl, rfl, TA.zero _ _, kk⟩
set_option maxRecDepth 100000 in
set_option maxHeartbeats 4000000 in
theorem step4_any (v : Value) (t : To) (a : Int) (w : World) (h : RT No w v t) (ht : tourB t = true) (ha : ¬ a = 0) :
    Calls Tryz.prog 48 #[v, stV 4 a 0] w (Ret2 fun v0 v1 w' => v1 = .bool false ∧ TA w.heap.size w' v0 zeroT ∧ Chg No w w') := by
  obtain ⟨k, hk⟩ : ∃ k : Int, k = 4 := ⟨_, rfl⟩
  obtain ⟨b, hb⟩ : ∃ b : Int, b = 0 := ⟨_, rfl⟩
  rw [← hk, ← hb]
  obtain ⟨hl1, hl2, hl3, hl4⟩ := tour_len ht
  have h0 := h
  have HT := Lib.hid ht
  obtain ⟨it, ps, rq⟩ := t
  obtain ⟨pv, qv, rfl, hps, hrq⟩ := h
  simp only at hps hrq hl1 hl2 hl3 hl4
  obtain ⟨qa, qc, rfl, _⟩ := id hrq
  obtain ⟨pa, cap, rfl, hcap, hmax, hlen, pf, mf, hl, hcl⟩ := id hps
  obtain ⟨n, hn⟩ : ∃ n, rq.length = n := ⟨_, rfl⟩
  have hW0 := boxes33 (w := w) (t := 31) (t' := 49) (t'' := 31) (x0 := .int .i64 it) (x1 := .slice pa ps.length cap) (x2 := .slice qa n qc) (y0 := .int .i64 k) (y1 := .int .i64 a) (y2 := .int .i64 b) (z0 := .int .i64 0) (z1 := .slice none 0 0) (z2 := .slice none 0 0)
    (R := fun W => Chg No w W ∧ Box3 W w.heap.size (.int .i64 it) (.slice pa ps.length cap) (.slice qa n qc) ∧ Box3 W (w.heap.size + 1) (.int .i64 k) (.int .i64 a) (.int .i64 b) ∧ Box3 W (w.heap.size + 1 + 1) (.int .i64 0) (.slice none 0 0) (.slice none 0 0)) (fun W k b0 b1 b2 => ⟨k, b0, b1, b2⟩)
  obtain ⟨kk, b0, b1, b2⟩ := hW0
  have hn0 : (0 : Int) ≤ (n : Int) := Int.natCast_nonneg _
  rw [hn] at h0 hl2 hrq ⊢
  have HN := Lib.hid hn
  obtain ⟨c0, c1, c2, _⟩ := id b0
  obtain ⟨d0, d1, d2, _⟩ := id b1
  clear hl hcl hps ht hn
  subst hk
  subst hb
  unfold stV
  go_enter Tryz.func48, Tryz.ntmps48
  go_wp2_with fail
  obtain ⟨z0, z1, z2, _⟩ := id b2
  exact bodyPost_ret (v := .tuple #[.agg #[.int .i64 0, .slice none 0 0, .slice none 0 0], .bool false]) (by simp [results, Tryz.results48, go_sem, z0, z1, z2]) rfl ⟨_, _, rfl, rfl, TA.zero _ _, kk⟩
set_option maxRecDepth 100000 in
set_option maxHeartbeats 4000000 in
theorem step4u_any (v : Value) (t : To) (w : World) (h : RT No w v t) (ht : tourB t = true) (ok : Bool) (hO : okUndo t = ok) (tv : To) (hV : undoV t = tv) :
    Calls Tryz.prog 48 #[v, stV 4 0 0] w (Ret2 fun v0 v1 w' => v1 = .bool ok ∧ TA w.heap.size w' v0 tv ∧ Chg No w w') := by
  obtain ⟨k, hk⟩ : ∃ k : Int, k = 4 := ⟨_, rfl⟩
  obtain ⟨a, ha⟩ : ∃ a : Int, a = 0 := ⟨_, rfl⟩
  obtain ⟨b, hb⟩ : ∃ b : Int, b = 0 := ⟨_, rfl⟩
  rw [← hk]
  have HO := Lib.hid hO
  have HV := Lib.hid hV
  clear hO hV
  have hst : stV k 0 0 = stV k a b := by rw [ha, hb]
  rw [hst]
  clear hst
  obtain ⟨hl1, hl2, hl3, hl4⟩ := tour_len ht
  have h0 := h
  have HT := Lib.hid ht
  obtain ⟨it, ps, rq⟩ := t
  obtain ⟨pv, qv, rfl, hps, hrq⟩ := h
  simp only at hps hrq hl1 hl2 hl3 hl4
  obtain ⟨qa, qc, rfl, _⟩ := id hrq
  obtain ⟨pa, cap, rfl, hcap, hmax, hlen, pf, mf, hl, hcl⟩ := id hps
  obtain ⟨n, hn⟩ : ∃ n, rq.length = n := ⟨_, rfl⟩
  have hW0 := boxes33 (w := w) (t := 31) (t' := 49) (t'' := 31) (x0 := .int .i64 it) (x1 := .slice pa ps.length cap) (x2 := .slice qa n qc) (y0 := .int .i64 k) (y1 := .int .i64 a) (y2 := .int .i64 b) (z0 := .int .i64 0) (z1 := .slice none 0 0) (z2 := .slice none 0 0)
    (R := fun W => Chg No w W ∧ Box3 W w.heap.size (.int .i64 it) (.slice pa ps.length cap) (.slice qa n qc) ∧ Box3 W (w.heap.size + 1) (.int .i64 k) (.int .i64 a) (.int .i64 b) ∧ Box3 W (w.heap.size + 1 + 1) (.int .i64 0) (.slice none 0 0) (.slice none 0 0)) (fun W k b0 b1 b2 => ⟨k, b0, b1, b2⟩)
  obtain ⟨kk, b0, b1, b2⟩ := hW0
  have hn0 : (0 : Int) ≤ (n : Int) := Int.natCast_nonneg _
  rw [hn] at h0 hl2 hrq ⊢
  have HN := Lib.hid hn
  obtain ⟨c0, c1, c2, _⟩ := id b0
  obtain ⟨d0, d1, d2, _⟩ := id b1
  clear hl hcl hps ht hn
  subst hk
  subst hb
  subst ha
  unfold stV
  go_enter Tryz.func48, Tryz.ntmps48
  go_wp2_with fail
  refine (undo_any _ _ _ (h0.keep kk) HT.out).mono ?_
  rintro e w3 ⟨v3, v4, rfl, rfl, hTA, k3⟩
  rw [HV.out] at hTA
  rw [HO.out]
  clear c0 c1 c2 d0 d1 d2
  have hs0 := b2.lt
  replace b2 := b2.keep k3
  replace kk := kk.keep k3
  obtain ⟨e0, e1, e2, cf⟩ := id b2
  have cf0 := cf 0
  have cf1 := cf 1
  have cf2 := cf 2
  clear cf
  have hb2l := b2.lt
  obtain ⟨iN, p1, p2, p3, r1, r2, r3, rfl, hTN⟩ := hTA.put3 (b := w.heap.size + 1 + 1) (by omega)
  obtain ⟨z0, z1, z2, _⟩ := ((b2.set0 (.int .i64 iN)).set1 (.slice p1 p2 p3)).set2 (.slice r1 r2 r3)
  have HK := Lib.hid (kk.put3 (b := w.heap.size + 1 + 1) (fun h => by omega) (.int .i64 iN) (.slice p1 p2 p3) (.slice r1 r2 r3))
  have HTN := Lib.hid (hTN.weak (base' := w.heap.size) (by omega))
  clear hTA hTN kk b2
  go_wp2_with fail
  exact bodyPost_ret (v := .tuple #[.agg #[.int .i64 iN, .slice p1 p2 p3, .slice r1 r2 r3], .bool ok]) (by simp [results, Tryz.results48, go_sem, z0, z1, z2]) rfl ⟨_, _, rfl, rfl, HTN.out, HK.out⟩
set_option maxRecDepth 100000 in
set_option maxHeartbeats 4000000 in
theorem step7_any (v : Value) (t : To) (a : Int) (w : World) (h : RT No w v t) (ht : tourB t = true) (ha : ¬ a = 0) :
    Calls Tryz.prog 48 #[v, stV 7 a 0] w (Ret2 fun v0 v1 w' => v1 = .bool false ∧ TA w.heap.size w' v0 zeroT ∧ Chg No w w') := by
  obtain ⟨k, hk⟩ : ∃ k : Int, k = 7 := ⟨_, rfl⟩
  obtain ⟨b, hb⟩ : ∃ b : Int, b = 0 := ⟨_, rfl⟩
  rw [← hk, ← hb]
  obtain ⟨hl1, hl2, hl3, hl4⟩ := tour_len ht
  have h0 := h
  have HT := Lib.hid ht
  obtain ⟨it, ps, rq⟩ := t
  obtain ⟨pv, qv, rfl, hps, hrq⟩ := h
  simp only at hps hrq hl1 hl2 hl3 hl4
  obtain ⟨qa, qc, rfl, _⟩ := id hrq
  obtain ⟨pa, cap, rfl, hcap, hmax, hlen, pf, mf, hl, hcl⟩ := id hps
  obtain ⟨n, hn⟩ : ∃ n, rq.length = n := ⟨_, rfl⟩
  have hW0 := boxes33 (w := w) (t := 31) (t' := 49) (t'' := 31) (x0 := .int .i64 it) (x1 := .slice pa ps.length cap) (x2 := .slice qa n qc) (y0 := .int .i64 k) (y1 := .int .i64 a) (y2 := .int .i64 b) (z0 := .int .i64 0) (z1 := .slice none 0 0) (z2 := .slice none 0 0)
    (R := fun W => Chg No w W ∧ Box3 W w.heap.size (.int .i64 it) (.slice pa ps.length cap) (.slice qa n qc) ∧ Box3 W (w.heap.size + 1) (.int .i64 k) (.int .i64 a) (.int .i64 b) ∧ Box3 W (w.heap.size + 1 + 1) (.int .i64 0) (.slice none 0 0) (.slice none 0 0)) (fun W k b0 b1 b2 => ⟨k, b0, b1, b2⟩)
  obtain ⟨kk, b0, b1, b2⟩ := hW0
  have hn0 : (0 : Int) ≤ (n : Int) := Int.natCast_nonneg _
  rw [hn] at h0 hl2 hrq ⊢
  have HN := Lib.hid hn
  obtain ⟨c0, c1, c2, _⟩ := id b0
  obtain ⟨d0, d1, d2, _⟩ := id b1
  clear hl hcl hps ht hn
  subst hk
  subst hb
  unfold stV
  go_enter Tryz.func48, Tryz.ntmps48
  go_wp2_with fail
  obtain ⟨z0, z1, z2, _⟩ := id b2
  exact bodyPost_ret (v := .tuple #[.agg #[.int .i64 0, .slice none 0 0, .slice none 0 0], .bool false]) (by simp [results, Tryz.results48, go_sem, z0, z1, z2]) rfl ⟨_, _, rfl, rfl, TA.zero _ _, kk⟩
set_option maxRecDepth 100000 in
set_option maxHeartbeats 4000000 in
theorem step7c_any (v : Value) (t : To) (w : World) (h : RT No w v t) (ht : tourB t = true) :
    Calls Tryz.prog 48 #[v, stV 7 0 0] w (Ret2 fun v0 v1 w' => v1 = .bool true ∧ TA w.heap.size w' v0 ⟨t.items, clearP t.ps, []⟩ ∧ Chg No w w') := by
  obtain ⟨k, hk⟩ : ∃ k : Int, k = 7 := ⟨_, rfl⟩
  obtain ⟨a, ha⟩ : ∃ a : Int, a = 0 := ⟨_, rfl⟩
  obtain ⟨b, hb⟩ : ∃ b : Int, b = 0 := ⟨_, rfl⟩
  rw [← hk]
  have hst : stV k 0 0 = stV k a b := by rw [ha, hb]
  rw [hst]
  clear hst
  obtain ⟨hl1, hl2, hl3, hl4⟩ := tour_len ht
  have h0 := h
  have HT := Lib.hid ht
  obtain ⟨it, ps, rq⟩ := t
  obtain ⟨pv, qv, rfl, hps, hrq⟩ := h
  simp only at hps hrq hl1 hl2 hl3 hl4
  obtain ⟨qa, qc, rfl, _⟩ := id hrq
  obtain ⟨pa, cap, rfl, hcap, hmax, hlen, pf, mf, hl, hcl⟩ := id hps
  obtain ⟨n, hn⟩ : ∃ n, rq.length = n := ⟨_, rfl⟩
  have hW0 := boxes33 (w := w) (t := 31) (t' := 49) (t'' := 31) (x0 := .int .i64 it) (x1 := .slice pa ps.length cap) (x2 := .slice qa n qc) (y0 := .int .i64 k) (y1 := .int .i64 a) (y2 := .int .i64 b) (z0 := .int .i64 0) (z1 := .slice none 0 0) (z2 := .slice none 0 0)
    (R := fun W => Chg No w W ∧ Box3 W w.heap.size (.int .i64 it) (.slice pa ps.length cap) (.slice qa n qc) ∧ Box3 W (w.heap.size + 1) (.int .i64 k) (.int .i64 a) (.int .i64 b) ∧ Box3 W (w.heap.size + 1 + 1) (.int .i64 0) (.slice none 0 0) (.slice none 0 0)) (fun W k b0 b1 b2 => ⟨k, b0, b1, b2⟩)
  obtain ⟨kk, b0, b1, b2⟩ := hW0
  have hn0 : (0 : Int) ≤ (n : Int) := Int.natCast_nonneg _
  rw [hn] at h0 hl2 hrq ⊢
  have HN := Lib.hid hn
  obtain ⟨c0, c1, c2, _⟩ := id b0
  obtain ⟨d0, d1, d2, _⟩ := id b1
  clear hl hcl hps ht hn
  subst hk
  subst hb
  subst ha
  unfold stV
  have HSV := Lib.hid (fun i hi => (sv_of HT.out i hi).2)
  go_enter Tryz.func48, Tryz.ntmps48
  go_wp2_with fail
  refine (cleared_any _ _ _ (h0.keep kk) HSV.out).mono ?_
  rintro e w3 ⟨v3, rfl, hTA, k3⟩
  clear c0 c1 c2 d0 d1 d2
  have hs0 := b2.lt
  replace b2 := b2.keep k3
  replace kk := kk.keep k3
  obtain ⟨e0, e1, e2, cf⟩ := id b2
  have cf0 := cf 0
  have cf1 := cf 1
  have cf2 := cf 2
  clear cf
  have hb2l := b2.lt
  obtain ⟨iN, p1, p2, p3, r1, r2, r3, rfl, hTN⟩ := hTA.put3 (b := w.heap.size + 1 + 1) (by omega)
  obtain ⟨z0, z1, z2, _⟩ := ((b2.set0 (.int .i64 iN)).set1 (.slice p1 p2 p3)).set2 (.slice r1 r2 r3)
  have HK := Lib.hid (kk.put3 (b := w.heap.size + 1 + 1) (fun h => by omega) (.int .i64 iN) (.slice p1 p2 p3) (.slice r1 r2 r3))
  have HTN := Lib.hid (hTN.weak (base' := w.heap.size) (by omega))
  clear hTA hTN kk b2
  go_wp2_with fail
  exact bodyPost_ret (v := .tuple #[.agg #[.int .i64 iN, .slice p1 p2 p3, .slice r1 r2 r3], .bool true]) (by simp [results, Tryz.results48, go_sem, z0, z1, z2]) rfl ⟨_, _, rfl, rfl, HTN.out, HK.out⟩
set_option maxRecDepth 100000 in
set_option maxHeartbeats 4000000 in
theorem step0_any (v : Value) (t : To) (k a : Int) (w : World) (h : RT No w v t) (ht : tourB t = true) (e1 : ¬ k = 1) (e2 : ¬ k = 2) (e3 : ¬ k = 3) (e4 : ¬ k = 4) (e5 : ¬ k = 5) (e6 : ¬ k = 6) (e7 : ¬ k = 7) :
    Calls Tryz.prog 48 #[v, stV k a 0] w (Ret2 fun v0 v1 w' => v1 = .bool false ∧ TA w.heap.size w' v0 zeroT ∧ Chg No w w') := by
  obtain ⟨b, hb⟩ : ∃ b : Int, b = 0 := ⟨_, rfl⟩
  rw [← hb]
  obtain ⟨hl1, hl2, hl3, hl4⟩ := tour_len ht
  have h0 := h
  have HT := Lib.hid ht
  obtain ⟨it, ps, rq⟩ := t
  obtain ⟨pv, qv, rfl, hps, hrq⟩ := h
  simp only at hps hrq hl1 hl2 hl3 hl4
  obtain ⟨qa, qc, rfl, _⟩ := id hrq
  obtain ⟨pa, cap, rfl, hcap, hmax, hlen, pf, mf, hl, hcl⟩ := id hps
  obtain ⟨n, hn⟩ : ∃ n, rq.length = n := ⟨_, rfl⟩
  have hW0 := boxes33 (w := w) (t := 31) (t' := 49) (t'' := 31) (x0 := .int .i64 it) (x1 := .slice pa ps.length cap) (x2 := .slice qa n qc) (y0 := .int .i64 k) (y1 := .int .i64 a) (y2 := .int .i64 b) (z0 := .int .i64 0) (z1 := .slice none 0 0) (z2 := .slice none 0 0)
    (R := fun W => Chg No w W ∧ Box3 W w.heap.size (.int .i64 it) (.slice pa ps.length cap) (.slice qa n qc) ∧ Box3 W (w.heap.size + 1) (.int .i64 k) (.int .i64 a) (.int .i64 b) ∧ Box3 W (w.heap.size + 1 + 1) (.int .i64 0) (.slice none 0 0) (.slice none 0 0)) (fun W k b0 b1 b2 => ⟨k, b0, b1, b2⟩)
  obtain ⟨kk, b0, b1, b2⟩ := hW0
  have hn0 : (0 : Int) ≤ (n : Int) := Int.natCast_nonneg _
  rw [hn] at h0 hl2 hrq ⊢
  have HN := Lib.hid hn
  obtain ⟨c0, c1, c2, _⟩ := id b0
  obtain ⟨d0, d1, d2, _⟩ := id b1
  clear hl hcl hps ht hn
  subst hb
  unfold stV
  go_enter Tryz.func48, Tryz.ntmps48
  go_wp2_with fail
  obtain ⟨z0, z1, z2, _⟩ := id b2
  exact bodyPost_ret (v := .tuple #[.agg #[.int .i64 0, .slice none 0 0, .slice none 0 0], .bool false]) (by simp [results, Tryz.results48, go_sem, z0, z1, z2]) rfl ⟨_, _, rfl, rfl, TA.zero _ _, kk⟩
end Go.Proofs.YtodnkkmjjlfoiaaGreat
