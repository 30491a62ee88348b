import Derived.Test.YtodnkkmjjlfoiaaGreatDf
import Derived.Test.YtodnkkmjjlfoiaaGreatDg
/- a step (program) -/
namespace Go.Proofs.YtodnkkmjjlfoiaaGreat
open Go.RowKit

noncomputable def resT (t : To) (k a b : Int) : To := if okStep t k a b then stepT t k a b else zeroT
theorem resT_no {t : To} {k a b : Int} (h : okStep t k a b = false) : resT t k a b = zeroT := by unfold resT; rw [h]; rfl
theorem resT_yes {t : To} {k a b : Int} (h : okStep t k a b = true) : resT t k a b = stepT t k a b := by unfold resT; rw [h]; rfl
set_option maxRecDepth 100000 in
set_option maxHeartbeats 4000000 in
theorem step1_any (v : Value) (t : To) (a b : Int) (w : World) (h : RT No w v t) (ht : tourB t = true) (ok : Bool) (hO : okJoin t a b = ok) (tv : To) (hV : (if okJoin t a b then joinT t a b else zeroT) = tv) :
    Calls Tryz.prog 48 #[v, stV 1 a b] w (Ret2 fun v0 v1 w' => v1 = .bool ok ∧ TA w.heap.size w' v0 tv ∧ Chg No w w') := by
  obtain ⟨k, hk⟩ : ∃ k : Int, k = 1 := ⟨_, rfl⟩
  rw [← hk]
  have HO := Lib.hid hO
  have HV := Lib.hid hV
  clear hO hV
  obtain ⟨hl1, hl2, hl3, hl4⟩ := tour_len ht
  have h0 := h
  have HT := Lib.hid ht
  obtain ⟨it, ps, rq⟩ := t
  obtain ⟨pv, qv, rfl, hps, hrq⟩ := h
  simp only at hps hrq hl1 hl2 hl3 hl4
  obtain ⟨qa, qc, rfl, _⟩ := id hrq
  obtain ⟨pa, cap, rfl, hcap, hmax, hlen, pf, mf, hl, hcl⟩ := id hps
  obtain ⟨n, hn⟩ : ∃ n, rq.length = n := ⟨_, rfl⟩
  have hW0 := boxes33 (w := w) (t := 31) (t' := 49) (t'' := 31) (x0 := .int .i64 it) (x1 := .slice pa ps.length cap) (x2 := .slice qa n qc) (y0 := .int .i64 k) (y1 := .int .i64 a) (y2 := .int .i64 b) (z0 := .int .i64 0) (z1 := .slice none 0 0) (z2 := .slice none 0 0)
    (R := fun W => Chg No w W ∧ Box3 W w.heap.size (.int .i64 it) (.slice pa ps.length cap) (.slice qa n qc) ∧ Box3 W (w.heap.size + 1) (.int .i64 k) (.int .i64 a) (.int .i64 b) ∧ Box3 W (w.heap.size + 1 + 1) (.int .i64 0) (.slice none 0 0) (.slice none 0 0)) (fun W k b0 b1 b2 => ⟨k, b0, b1, b2⟩)
  obtain ⟨kk, b0, b1, b2⟩ := hW0
  have hn0 : (0 : Int) ≤ (n : Int) := Int.natCast_nonneg _
  rw [hn] at h0 hl2 hrq ⊢
  have HN := Lib.hid hn
  obtain ⟨c0, c1, c2, _⟩ := id b0
  obtain ⟨d0, d1, d2, _⟩ := id b1
  clear hl hcl hps ht hn
  subst hk
  unfold stV
  have HSV := Lib.hid (sv_of HT.out)
  go_enter Tryz.func48, Tryz.ntmps48
  go_wp2_with fail
  refine (join_any _ _ a b _ (h0.keep kk) HSV.out).mono ?_
  rintro e w3 ⟨v3, v4, rfl, rfl, hTA, k3⟩
  rw [HV.out] at hTA
  rw [HO.out]
  clear c0 c1 c2 d0 d1 d2
  have hs0 := b2.lt
  replace b2 := b2.keep k3
  replace kk := kk.keep k3
  obtain ⟨e0, e1, e2, cf⟩ := id b2
  have cf0 := cf 0
  have cf1 := cf 1
  have cf2 := cf 2
  clear cf
  have hb2l := b2.lt
  obtain ⟨iN, p1, p2, p3, r1, r2, r3, rfl, hTN⟩ := hTA.put3 (b := w.heap.size + 1 + 1) (by omega)
  obtain ⟨z0, z1, z2, _⟩ := ((b2.set0 (.int .i64 iN)).set1 (.slice p1 p2 p3)).set2 (.slice r1 r2 r3)
  have HK := Lib.hid (kk.put3 (b := w.heap.size + 1 + 1) (fun h => by omega) (.int .i64 iN) (.slice p1 p2 p3) (.slice r1 r2 r3))
  have HTN := Lib.hid (hTN.weak (base' := w.heap.size) (by omega))
  clear hTA hTN kk b2
  go_wp2_with fail
  exact bodyPost_ret (v := .tuple #[.agg #[.int .i64 iN, .slice p1 p2 p3, .slice r1 r2 r3], .bool ok]) (by simp [results, Tryz.results48, go_sem, z0, z1, z2]) rfl ⟨_, _, rfl, rfl, HTN.out, HK.out⟩
set_option maxRecDepth 100000 in
set_option maxHeartbeats 4000000 in
theorem step6_any (v : Value) (t : To) (a b : Int) (w : World) (h : RT No w v t) (ht : tourB t = true) (ok : Bool) (hO : okCr t a b = ok) (tv : To) (hV : crV t a b = tv) :
    Calls Tryz.prog 48 #[v, stV 6 a b] w (Ret2 fun v0 v1 w' => v1 = .bool ok ∧ TA w.heap.size w' v0 tv ∧ Chg No w w') := by
  obtain ⟨k, hk⟩ : ∃ k : Int, k = 6 := ⟨_, rfl⟩
  rw [← hk]
  have HO := Lib.hid hO
  have HV := Lib.hid hV
  clear hO hV
  obtain ⟨hl1, hl2, hl3, hl4⟩ := tour_len ht
  have h0 := h
  have HT := Lib.hid ht
  obtain ⟨it, ps, rq⟩ := t
  obtain ⟨pv, qv, rfl, hps, hrq⟩ := h
  simp only at hps hrq hl1 hl2 hl3 hl4
  obtain ⟨qa, qc, rfl, _⟩ := id hrq
  obtain ⟨pa, cap, rfl, hcap, hmax, hlen, pf, mf, hl, hcl⟩ := id hps
  obtain ⟨n, hn⟩ : ∃ n, rq.length = n := ⟨_, rfl⟩
  have hW0 := boxes33 (w := w) (t := 31) (t' := 49) (t'' := 31) (x0 := .int .i64 it) (x1 := .slice pa ps.length cap) (x2 := .slice qa n qc) (y0 := .int .i64 k) (y1 := .int .i64 a) (y2 := .int .i64 b) (z0 := .int .i64 0) (z1 := .slice none 0 0) (z2 := .slice none 0 0)
    (R := fun W => Chg No w W ∧ Box3 W w.heap.size (.int .i64 it) (.slice pa ps.length cap) (.slice qa n qc) ∧ Box3 W (w.heap.size + 1) (.int .i64 k) (.int .i64 a) (.int .i64 b) ∧ Box3 W (w.heap.size + 1 + 1) (.int .i64 0) (.slice none 0 0) (.slice none 0 0)) (fun W k b0 b1 b2 => ⟨k, b0, b1, b2⟩)
  obtain ⟨kk, b0, b1, b2⟩ := hW0
  have hn0 : (0 : Int) ≤ (n : Int) := Int.natCast_nonneg _
  rw [hn] at h0 hl2 hrq ⊢
  have HN := Lib.hid hn
  obtain ⟨c0, c1, c2, _⟩ := id b0
  obtain ⟨d0, d1, d2, _⟩ := id b1
  clear hl hcl hps ht hn
  subst hk
  unfold stV
  go_enter Tryz.func48, Tryz.ntmps48
  go_wp2_with fail
  have hR := h0.keep kk
  have hC : ∀ ww, RT No ww _ ⟨it, ps, rq⟩ → Calls Tryz.prog 97 #[.agg #[.int .i64 it, .slice pa ps.length cap, .slice qa n qc], .int .i64 a, .int .i64 b] ww (Ret2 fun v0 v1 w' => v1 = .bool (okCr ⟨it, ps, rq⟩ a b) ∧ TA ww.heap.size w' v0 (crV ⟨it, ps, rq⟩ a b) ∧ Chg No ww w') := fun ww hw => by
    cases hh : hasP ⟨it, ps, rq⟩ a
    · exact cruelly0_any _ ⟨it, ps, rq⟩ a b ww hw HT.out hh
    · exact cruelly1_any _ ⟨it, ps, rq⟩ a b ww hw HT.out hh
  refine (hC _ hR).mono ?_
  rintro e w3 ⟨v3, v4, rfl, rfl, hTA, k3⟩
  clear hC hR
  rw [HV.out] at hTA
  rw [HO.out]
  clear c0 c1 c2 d0 d1 d2
  have hs0 := b2.lt
  replace b2 := b2.keep k3
  replace kk := kk.keep k3
  obtain ⟨e0, e1, e2, cf⟩ := id b2
  have cf0 := cf 0
  have cf1 := cf 1
  have cf2 := cf 2
  clear cf
  have hb2l := b2.lt
  obtain ⟨iN, p1, p2, p3, r1, r2, r3, rfl, hTN⟩ := hTA.put3 (b := w.heap.size + 1 + 1) (by omega)
  obtain ⟨z0, z1, z2, _⟩ := ((b2.set0 (.int .i64 iN)).set1 (.slice p1 p2 p3)).set2 (.slice r1 r2 r3)
  have HK := Lib.hid (kk.put3 (b := w.heap.size + 1 + 1) (fun h => by omega) (.int .i64 iN) (.slice p1 p2 p3) (.slice r1 r2 r3))
  have HTN := Lib.hid (hTN.weak (base' := w.heap.size) (by omega))
  clear hTA hTN kk b2
  go_wp2_with fail
  exact bodyPost_ret (v := .tuple #[.agg #[.int .i64 iN, .slice p1 p2 p3, .slice r1 r2 r3], .bool ok]) (by simp [results, Tryz.results48, go_sem, z0, z1, z2]) rfl ⟨_, _, rfl, rfl, HTN.out, HK.out⟩
set_option maxRecDepth 100000 in
set_option maxHeartbeats 4000000 in
theorem stepB_any (v : Value) (t : To) (k a b : Int) (w : World) (h : RT No w v t) (ht : tourB t = true) (e1 : ¬ k = 1) (e6 : ¬ k = 6) (hb : ¬ b = 0) :
    Calls Tryz.prog 48 #[v, stV k a b] w (Ret2 fun v0 v1 w' => v1 = .bool false ∧ TA w.heap.size w' v0 zeroT ∧ Chg No w w') := by
  obtain ⟨hl1, hl2, hl3, hl4⟩ := tour_len ht
  have h0 := h
  have HT := Lib.hid ht
  obtain ⟨it, ps, rq⟩ := t
  obtain ⟨pv, qv, rfl, hps, hrq⟩ := h
  simp only at hps hrq hl1 hl2 hl3 hl4
  obtain ⟨qa, qc, rfl, _⟩ := id hrq
  obtain ⟨pa, cap, rfl, hcap, hmax, hlen, pf, mf, hl, hcl⟩ := id hps
  obtain ⟨n, hn⟩ : ∃ n, rq.length = n := ⟨_, rfl⟩
  have hW0 := boxes33 (w := w) (t := 31) (t' := 49) (t'' := 31) (x0 := .int .i64 it) (x1 := .slice pa ps.length cap) (x2 := .slice qa n qc) (y0 := .int .i64 k) (y1 := .int .i64 a) (y2 := .int .i64 b) (z0 := .int .i64 0) (z1 := .slice none 0 0) (z2 := .slice none 0 0)
    (R := fun W => Chg No w W ∧ Box3 W w.heap.size (.int .i64 it) (.slice pa ps.length cap) (.slice qa n qc) ∧ Box3 W (w.heap.size + 1) (.int .i64 k) (.int .i64 a) (.int .i64 b) ∧ Box3 W (w.heap.size + 1 + 1) (.int .i64 0) (.slice none 0 0) (.slice none 0 0)) (fun W k b0 b1 b2 => ⟨k, b0, b1, b2⟩)
  obtain ⟨kk, b0, b1, b2⟩ := hW0
  have hn0 : (0 : Int) ≤ (n : Int) := Int.natCast_nonneg _
  rw [hn] at h0 hl2 hrq ⊢
  have HN := Lib.hid hn
  obtain ⟨c0, c1, c2, _⟩ := id b0
  obtain ⟨d0, d1, d2, _⟩ := id b1
  clear hl hcl hps ht hn
  unfold stV
  go_enter Tryz.func48, Tryz.ntmps48
  go_wp2_with fail
  obtain ⟨z0, z1, z2, _⟩ := id b2
  exact bodyPost_ret (v := .tuple #[.agg #[.int .i64 0, .slice none 0 0, .slice none 0 0], .bool false]) (by simp [results, Tryz.results48, go_sem, z0, z1, z2]) rfl ⟨_, _, rfl, rfl, TA.zero _ _, kk⟩
set_option maxRecDepth 100000 in
set_option maxHeartbeats 4000000 in
theorem step2f_any (v : Value) (t : To) (a : Int) (w : World) (h : RT No w v t) (ht : tourB t = true) (hc : (inB a 0 (t.items - 1) && decide (t.reqs.length < 60)) = false) :
    Calls Tryz.prog 48 #[v, stV 2 a 0] w (Ret2 fun v0 v1 w' => v1 = .bool false ∧ TA w.heap.size w' v0 zeroT ∧ Chg No w w') := by
  obtain ⟨k, hk⟩ : ∃ k : Int, k = 2 := ⟨_, rfl⟩
  obtain ⟨b, hb⟩ : ∃ b : Int, b = 0 := ⟨_, rfl⟩
  rw [← hk, ← hb]
  have HC := Lib.hid hc
  clear hc
  obtain ⟨hl1, hl2, hl3, hl4⟩ := tour_len ht
  have h0 := h
  have HT := Lib.hid ht
  obtain ⟨it, ps, rq⟩ := t
  obtain ⟨pv, qv, rfl, hps, hrq⟩ := h
  simp only at hps hrq hl1 hl2 hl3 hl4
  obtain ⟨qa, qc, rfl, _⟩ := id hrq
  obtain ⟨pa, cap, rfl, hcap, hmax, hlen, pf, mf, hl, hcl⟩ := id hps
  obtain ⟨n, hn⟩ : ∃ n, rq.length = n := ⟨_, rfl⟩
  have hW0 := boxes33 (w := w) (t := 31) (t' := 49) (t'' := 31) (x0 := .int .i64 it) (x1 := .slice pa ps.length cap) (x2 := .slice qa n qc) (y0 := .int .i64 k) (y1 := .int .i64 a) (y2 := .int .i64 b) (z0 := .int .i64 0) (z1 := .slice none 0 0) (z2 := .slice none 0 0)
    (R := fun W => Chg No w W ∧ Box3 W w.heap.size (.int .i64 it) (.slice pa ps.length cap) (.slice qa n qc) ∧ Box3 W (w.heap.size + 1) (.int .i64 k) (.int .i64 a) (.int .i64 b) ∧ Box3 W (w.heap.size + 1 + 1) (.int .i64 0) (.slice none 0 0) (.slice none 0 0)) (fun W k b0 b1 b2 => ⟨k, b0, b1, b2⟩)
  obtain ⟨kk, b0, b1, b2⟩ := hW0
  have hn0 : (0 : Int) ≤ (n : Int) := Int.natCast_nonneg _
  rw [hn] at h0 hl2 hrq ⊢
  have HN := Lib.hid hn
  obtain ⟨c0, c1, c2, _⟩ := id b0
  obtain ⟨d0, d1, d2, _⟩ := id b1
  clear hl hcl hps ht hn
  subst hk
  subst hb
  have hw1 : IntKind.i64.wrap (it - 1) = it - 1 := IntWalk.i64_in _ (by omega)
  unfold stV
  have hC := HC.out
  simp only at hC
  rw [HN.out] at hC
  cases hi : inB a 0 (it - 1)
  · have HI := Lib.hid hi
    clear hi hC
    go_enter Tryz.func48, Tryz.ntmps48
    go_wp2_with fail
    refine (within_any _ _ _ _).mono ?_
    rintro e w1 ⟨rfl, rfl⟩
    rw [HI.out]
    go_wp2_with fail
    obtain ⟨z0, z1, z2, _⟩ := id b2
    exact bodyPost_ret (v := .tuple #[.agg #[.int .i64 0, .slice none 0 0, .slice none 0 0], .bool false]) (by simp [results, Tryz.results48, go_sem, z0, z1, z2]) rfl ⟨_, _, rfl, rfl, TA.zero _ _, kk⟩
  · have HI := Lib.hid hi
    rw [hi, Bool.true_and] at hC
    have hn6 : ¬ (n : Int) < 60 := by have := of_decide_eq_false hC; omega
    clear hi hC
    go_enter Tryz.func48, Tryz.ntmps48
    go_wp2_with fail
    refine (within_any _ _ _ _).mono ?_
    rintro e w1 ⟨rfl, rfl⟩
    rw [HI.out]
    go_wp2_with fail
    obtain ⟨z0, z1, z2, _⟩ := id b2
    exact bodyPost_ret (v := .tuple #[.agg #[.int .i64 0, .slice none 0 0, .slice none 0 0], .bool false]) (by simp [results, Tryz.results48, go_sem, z0, z1, z2]) rfl ⟨_, _, rfl, rfl, TA.zero _ _, kk⟩
end Go.Proofs.YtodnkkmjjlfoiaaGreat
