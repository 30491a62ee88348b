import Derived.Test.YtdgcohoneijleaaGreatDoorPkX23
import Derived.Test.YtdgcohoneijleaaGreatDoorTe
import Derived.Test.YtdgcohoneijleaaGreatDoorPkX15
import Derived.Test.YtdgcohoneijleaaGreatDoorPkX13
set_option maxRecDepth 100000
namespace Go.Proofs.YtdgcohoneijleaaGreatDoor
open Go.RowKit
theorem tourStep_any (v : Value) (t : To) (k a b : Int) (w : World) (h : RT No w v t) (ht : tourB t = true) :
  Calls Tryz.prog 62 #[v, stV k a b] w (Ret2 fun v0 v1 w' => v1 = .bool (okStep t k a b) ∧ TA w.heap.size w' v0 (resT t k a b) ∧ Chg No w w') := by
 have fin : ∀ {ok : Bool} {tv : To}, okStep t k a b = ok → resT t k a b = tv → Calls Tryz.prog 62 #[v, stV k a b] w (Ret2 fun v0 v1 w' => v1 = .bool ok ∧ TA w.heap.size w' v0 tv ∧ Chg No w w') →
   Calls Tryz.prog 62 #[v, stV k a b] w (Ret2 fun v0 v1 w' => v1 = .bool (okStep t k a b) ∧ TA w.heap.size w' v0 (resT t k a b) ∧ Chg No w w') := fun e1 e2 h => by rw [e1, e2]; exact h
 by_cases e1 : k = 1
 ·subst e1
  have hs : stepT t 1 a b = joinT t a b := by unfold stepT; rw [if_pos rfl]
  have ho : okStep t 1 a b = okJoin t a b := by unfold okStep; rw [if_pos rfl]
  refine fin ho ?_ (step1_any v t a b w h ht _ rfl _ rfl)
  unfold resT; rw [ho, hs]
 by_cases e6 : k = 6
 ·subst e6
  have hs : stepT t 6 a b = againT t (t.reqs ++ cruelI (t.ps.getD a.toNat dPl).ca b.toNat) := by unfold stepT; rw [if_neg (by omega), if_pos rfl]
  have ho : okStep t 6 a b = okCr t a b := by unfold okStep; rw [if_neg (by omega), if_pos rfl]; rfl
  refine fin ho ?_ (step6_any v t a b w h ht _ rfl _ rfl)
  unfold resT crV; rw [ho, hs]
 have hok : okStep t k a b = okPlain t k a b := by unfold okStep; rw [if_neg e1, if_neg e6]
 have no : okPlain t k a b = false → Calls Tryz.prog 62 #[v, stV k a b] w (Ret2 fun v0 v1 w' => v1 = .bool false ∧ TA w.heap.size w' v0 zeroT ∧ Chg No w w') →
   Calls Tryz.prog 62 #[v, stV k a b] w (Ret2 fun v0 v1 w' => v1 = .bool (okStep t k a b) ∧ TA w.heap.size w' v0 (resT t k a b) ∧ Chg No w w') := fun e h => fin (hok.trans e) (resT_no (hok.trans e)) h
 by_cases hb : b = 0
 ·subst hb
  have hp : okPlain t k a 0 = (
    if k = 2 then inB a 0 (t.items - 1) && decide (t.reqs.length < 60)
    else if k = 3 then hasP t a
    else if k = 4 then (a == 0) && (decide (0 < t.reqs.length) && decide (latT t.ps t.ps.length < (t.reqs.length : Int)))
    else if k = 5 then inB a 1 t.reqs.length && decide ((t.reqs.length : Int) + a ≤ 60)
    else (k == 7) && (a == 0)) := rfl
  by_cases e2 : k = 2
  ·subst e2
   rw [if_pos rfl] at hp
   cases hc : (inB a 0 (t.items - 1) && decide (t.reqs.length < 60))
   ·exact no (hp.trans hc) (step2f_any v t a w h ht hc)
   ·have hk := hok.trans (hp.trans hc)
    exact fin hk ((resT_yes hk).trans (by unfold stepT; rw [if_neg (by omega), if_neg (by omega), if_pos rfl])) (step2t_any v t a w h ht hc)
  rw [if_neg e2] at hp
  by_cases e3 : k = 3
  ·subst e3
   rw [if_pos rfl] at hp
   cases hc : hasP t a
   ·exact no (hp.trans hc) (step3f_any v t a w h ht hc)
   ·have hk := hok.trans (hp.trans hc)
    have hi := inB_iff.1 hc
    obtain ⟨x, rfl⟩ : ∃ x : Nat, a = (x : Int) := ⟨a.toNat, by omega⟩
    exact fin hk ((resT_yes hk).trans (by unfold stepT; rw [if_neg (by omega), if_neg (by omega), if_neg (by omega), if_pos rfl])) (step3t_any v t x w h ht (by omega) hc)
  rw [if_neg e3] at hp
  by_cases e4 : k = 4
  ·subst e4
   rw [if_pos rfl] at hp
   by_cases ha : a = 0
   ·subst ha
    have ho : okStep t 4 0 0 = okUndo t := hok.trans (hp.trans (by simp [okUndo]))
    refine fin ho ?_ (step4u_any v t w h ht _ rfl _ rfl)
    unfold resT undoV; rw [ho]
    have hs : stepT t 4 0 0 = againT t (t.reqs.take (t.reqs.length - 1)) := by unfold stepT; rw [if_neg (by omega), if_neg (by omega), if_neg (by omega), if_neg (by omega), if_pos rfl]
    rw [hs]
   ·have ha' : (a == 0) = false := by simpa using ha
    exact no (hp.trans (by rw [ha']; rfl)) (step4_any v t a w h ht ha)
  rw [if_neg e4] at hp
  by_cases e5 : k = 5
  ·subst e5
   rw [if_pos rfl] at hp
   cases hc : (inB a 1 t.reqs.length && decide ((t.reqs.length : Int) + a ≤ 60))
   ·exact no (hp.trans hc) (step5f_any v t a w h ht hc)
   ·have hk := hok.trans (hp.trans hc)
    simp only [Bool.and_eq_true, decide_eq_true_eq, inB_iff] at hc
    exact fin hk ((resT_yes hk).trans (by unfold stepT; rw [if_neg (by omega), if_neg (by omega), if_neg (by omega), if_neg (by omega), if_neg (by omega), if_pos rfl])) (step5t_any v t a w h ht hc.1 hc.2)
  rw [if_neg e5] at hp
  by_cases e7 : k = 7
  ·subst e7
   by_cases ha : a = 0
   ·subst ha
    have hk : okStep t 7 0 0 = true := hok.trans (hp.trans rfl)
    exact fin hk ((resT_yes hk).trans (by unfold stepT; rw [if_neg (by omega), if_neg (by omega), if_neg (by omega), if_neg (by omega), if_neg (by omega), if_neg (by omega)])) (step7c_any v t w h ht)
   ·have ha' : (a == 0) = false := by simpa using ha
    exact no (hp.trans (by rw [ha']; rfl)) (step7_any v t a w h ht ha)
  ·have e7' : (k == 7) = false := by simpa using e7
   exact no (hp.trans (by rw [e7']; rfl)) (step0_any v t k a w h ht e1 e2 e3 e4 e5 e6 e7)
 ·have hb' : (b == 0) = false := by simpa using hb
  exact no (by unfold okPlain; rw [hb']; rfl) (stepB_any v t k a b w h ht e1 e6 hb)
def okS (t : To) (k a b : Int) : Bool := tourB t && okStep t k a b
noncomputable def stS (t : To) (k a b : Int) : To := if okS t k a b then stepT t k a b else zeroT
set_option maxHeartbeats 4000000 in
theorem implStep_any (v : Value) (t : To) (k a b : Int) (w : World) (h : RT No w v t) (ok : Bool) (hO : okS t k a b = ok) (tv : To) (hV : stS t k a b = tv) :
  Calls Tryz.prog 23 #[v, stV k a b] w (Ret2 fun v0 v1 w' => v1 = .bool ok ∧ TA w.heap.size w' v0 tv ∧ Chg No w w') := by
 have h0 := h
 cases ht : tourB t
 ·have HO : Hid (ok = false) := Lib.hid (by rw [← hO, okS, ht]; rfl)
  have HV : Hid (tv = zeroT) := Lib.hid (by rw [← hV, stS, okS, ht]; rfl)
  have HT := Lib.hid ht
  clear hO hV ht
  obtain ⟨it, ps, rq⟩ := t
  obtain ⟨pv, qv, rfl, hps, hrq⟩ := h
  simp only at hps hrq
  obtain ⟨qa, n, qc, rfl⟩ := hrq.shape
  obtain ⟨pa, cap, rfl, hcap, hmax, hlen, pf, mf, hl, hcl⟩ := id hps
  obtain ⟨kk, b0, b1, b2⟩ := boxes33 (w := w) (t := 31) (t' := 47) (t'' := 31) (x0 := .int .i64 it) (x1 := .slice pa ps.length cap) (x2 := .slice qa n qc) (y0 := .int .i64 k) (y1 := .int .i64 a) (y2 := .int .i64 b) (z0 := .int .i64 0) (z1 := .slice none 0 0) (z2 := .slice none 0 0)
   (R := fun W => Chg No w W ∧ Box3 W w.heap.size (.int .i64 it) (.slice pa ps.length cap) (.slice qa n qc) ∧ Box3 W (w.heap.size + 1) (.int .i64 k) (.int .i64 a) (.int .i64 b) ∧ Box3 W (w.heap.size + 1 + 1) (.int .i64 0) (.slice none 0 0) (.slice none 0 0)) (fun W k b0 b1 b2 => ⟨k, b0, b1, b2⟩)
  obtain ⟨c0, c1, c2, _⟩ := id b0
  obtain ⟨d0, d1, d2, _⟩ := id b1
  clear hl hcl hps hrq
  unfold stV
  go_enter Tryz.func23, Tryz.ntmps23
  go_wp2_with fail
  refine (IsTournament_any _ _ _ (h0.keep kk)).mono ?_
  rintro e w3 ⟨_, rfl, rfl, k3⟩
  rw [HT.out]
  clear c0 c1 c2 d0 d1 d2
  replace b0 := b0.keep k3
  replace b1 := b1.keep k3
  replace b2 := b2.keep k3
  replace kk := kk.keep k3
  obtain ⟨e0, e1, e2, cf⟩ := id b2
  have cf0 := cf 0
  have cf1 := cf 1
  have cf2 := cf 2
  clear cf
  have hb2l := b2.lt
  obtain ⟨z0, z1, z2, _⟩ := ((b2.set0 (.int .i64 0)).set1 (.slice none 0 0)).set2 (.slice none 0 0)
  have HK := Lib.hid (kk.put3 (b := w.heap.size + 1 + 1) (fun h => by omega) (.int .i64 0) (.slice none 0 0) (.slice none 0 0))
  clear kk b2
  go_wp2_with fail
  exact bodyPost_ret (v := .tuple #[.agg #[.int .i64 0, .slice none 0 0, .slice none 0 0], .bool false]) (by simp [results, Tryz.results23, go_sem, z0, z1, z2]) rfl ⟨_, _, rfl, by rw [HO.out], by rw [HV.out]; exact TA.zero _ _, HK.out⟩
 ·have HO : Hid (okStep t k a b = ok) := Lib.hid (by rw [← hO, okS, ht]; rfl)
  have HV : Hid (resT t k a b = tv) := Lib.hid (by rw [← hV, stS, okS, ht]; rfl)
  have HT := Lib.hid ht
  clear hO hV ht
  obtain ⟨it, ps, rq⟩ := t
  obtain ⟨pv, qv, rfl, hps, hrq⟩ := h
  simp only at hps hrq
  obtain ⟨qa, n, qc, rfl⟩ := hrq.shape
  obtain ⟨pa, cap, rfl, hcap, hmax, hlen, pf, mf, hl, hcl⟩ := id hps
  obtain ⟨kk, b0, b1, b2⟩ := boxes33 (w := w) (t := 31) (t' := 47) (t'' := 31) (x0 := .int .i64 it) (x1 := .slice pa ps.length cap) (x2 := .slice qa n qc) (y0 := .int .i64 k) (y1 := .int .i64 a) (y2 := .int .i64 b) (z0 := .int .i64 0) (z1 := .slice none 0 0) (z2 := .slice none 0 0)
   (R := fun W => Chg No w W ∧ Box3 W w.heap.size (.int .i64 it) (.slice pa ps.length cap) (.slice qa n qc) ∧ Box3 W (w.heap.size + 1) (.int .i64 k) (.int .i64 a) (.int .i64 b) ∧ Box3 W (w.heap.size + 1 + 1) (.int .i64 0) (.slice none 0 0) (.slice none 0 0)) (fun W k b0 b1 b2 => ⟨k, b0, b1, b2⟩)
  obtain ⟨c0, c1, c2, _⟩ := id b0
  obtain ⟨d0, d1, d2, _⟩ := id b1
  clear hl hcl hps hrq
  unfold stV
  go_enter Tryz.func23, Tryz.ntmps23
  go_wp2_with fail
  refine (IsTournament_any _ _ _ (h0.keep kk)).mono ?_
  rintro e w3 ⟨_, rfl, rfl, k3⟩
  rw [HT.out]
  have hs0 := b2.lt
  clear c0 c1 c2 d0 d1 d2
  replace b0 := b0.keep k3
  replace b1 := b1.keep k3
  replace b2 := b2.keep k3
  replace kk := kk.keep k3
  clear k3
  have hs0 := b2.lt
  obtain ⟨c0, c1, c2, _⟩ := id b0
  obtain ⟨d0, d1, d2, _⟩ := id b1
  go_wp2_with fail
  refine (tourStep_any _ ⟨it, ps, rq⟩ k a b w3 (h0.keep kk) HT.out).mono ?_
  rintro e w4 ⟨v3, v4, rfl, rfl, hTA, k3⟩
  rw [HV.out] at hTA
  rw [HO.out]
  clear c0 c1 c2 d0 d1 d2
  replace b0 := b0.keep k3
  replace b1 := b1.keep k3
  replace b2 := b2.keep k3
  replace kk := kk.keep k3
  obtain ⟨e0, e1, e2, cf⟩ := id b2
  have cf0 := cf 0
  have cf1 := cf 1
  have cf2 := cf 2
  clear cf
  have hb2l := b2.lt
  obtain ⟨iN, p1, p2, p3, r1, r2, r3, rfl, hTN⟩ := hTA.put3 (b := w.heap.size + 1 + 1) (by omega)
  obtain ⟨z0, z1, z2, _⟩ := ((b2.set0 (.int .i64 iN)).set1 (.slice p1 p2 p3)).set2 (.slice r1 r2 r3)
  have HK := Lib.hid (kk.put3 (b := w.heap.size + 1 + 1) (fun h => by omega) (.int .i64 iN) (.slice p1 p2 p3) (.slice r1 r2 r3))
  have HTN := Lib.hid (hTN.weak (base' := w.heap.size) (by omega))
  clear hTA hTN kk b2
  go_wp2_with fail
  exact bodyPost_ret (v := .tuple #[.agg #[.int .i64 iN, .slice p1 p2 p3, .slice r1 r2 r3], .bool ok]) (by simp [results, Tryz.results23, go_sem, z0, z1, z2]) rfl ⟨_, _, rfl, rfl, HTN.out, HK.out⟩
set_option maxHeartbeats 4000000 in
theorem specStep_any (v : Value) (t : To) (k a b : Int) (w : World) (h : RT No w v t) (ok : Bool) (hO : okS t k a b = ok) (tv : To) (hV : stS t k a b = tv) :
  Calls Tryz.prog 24 #[v, stV k a b] w (Ret2 fun v0 v1 w' => v1 = .bool ok ∧ TA w.heap.size w' v0 tv ∧ Chg No w w') := by
 have h0 := h
 cases ht : tourB t
 ·have HO : Hid (ok = false) := Lib.hid (by rw [← hO, okS, ht]; rfl)
  have HV : Hid (tv = zeroT) := Lib.hid (by rw [← hV, stS, okS, ht]; rfl)
  have HT := Lib.hid ht
  clear hO hV ht
  obtain ⟨it, ps, rq⟩ := t
  obtain ⟨pv, qv, rfl, hps, hrq⟩ := h
  simp only at hps hrq
  obtain ⟨qa, n, qc, rfl⟩ := hrq.shape
  obtain ⟨pa, cap, rfl, hcap, hmax, hlen, pf, mf, hl, hcl⟩ := id hps
  obtain ⟨kk, b0, b1, b2⟩ := boxes33 (w := w) (t := 31) (t' := 47) (t'' := 31) (x0 := .int .i64 it) (x1 := .slice pa ps.length cap) (x2 := .slice qa n qc) (y0 := .int .i64 k) (y1 := .int .i64 a) (y2 := .int .i64 b) (z0 := .int .i64 0) (z1 := .slice none 0 0) (z2 := .slice none 0 0)
   (R := fun W => Chg No w W ∧ Box3 W w.heap.size (.int .i64 it) (.slice pa ps.length cap) (.slice qa n qc) ∧ Box3 W (w.heap.size + 1) (.int .i64 k) (.int .i64 a) (.int .i64 b) ∧ Box3 W (w.heap.size + 1 + 1) (.int .i64 0) (.slice none 0 0) (.slice none 0 0)) (fun W k b0 b1 b2 => ⟨k, b0, b1, b2⟩)
  obtain ⟨c0, c1, c2, _⟩ := id b0
  obtain ⟨d0, d1, d2, _⟩ := id b1
  clear hl hcl hps hrq
  unfold stV
  go_enter Tryz.func24, Tryz.ntmps24
  go_wp2_with fail
  refine (l12Tour_any _ _ _ (h0.keep kk)).mono ?_
  rintro e w3 ⟨_, rfl, rfl, k3⟩
  rw [HT.out]
  clear c0 c1 c2 d0 d1 d2
  replace b0 := b0.keep k3
  replace b1 := b1.keep k3
  replace b2 := b2.keep k3
  replace kk := kk.keep k3
  obtain ⟨e0, e1, e2, cf⟩ := id b2
  have cf0 := cf 0
  have cf1 := cf 1
  have cf2 := cf 2
  clear cf
  have hb2l := b2.lt
  obtain ⟨z0, z1, z2, _⟩ := ((b2.set0 (.int .i64 0)).set1 (.slice none 0 0)).set2 (.slice none 0 0)
  have HK := Lib.hid (kk.put3 (b := w.heap.size + 1 + 1) (fun h => by omega) (.int .i64 0) (.slice none 0 0) (.slice none 0 0))
  clear kk b2
  go_wp2_with fail
  exact bodyPost_ret (v := .tuple #[.agg #[.int .i64 0, .slice none 0 0, .slice none 0 0], .bool false]) (by simp [results, Tryz.results24, go_sem, z0, z1, z2]) rfl ⟨_, _, rfl, by rw [HO.out], by rw [HV.out]; exact TA.zero _ _, HK.out⟩
 ·cases hs : okStep t k a b
  ·have HO : Hid (ok = false) := Lib.hid (by rw [← hO, okS, ht, hs]; rfl)
   have HV : Hid (tv = zeroT) := Lib.hid (by rw [← hV, stS, okS, ht, hs]; rfl)
   have HT := Lib.hid ht
   have HS := Lib.hid hs
   clear hO hV ht hs
   obtain ⟨it, ps, rq⟩ := t
   obtain ⟨pv, qv, rfl, hps, hrq⟩ := h
   simp only at hps hrq
   obtain ⟨qa, n, qc, rfl⟩ := hrq.shape
   obtain ⟨pa, cap, rfl, hcap, hmax, hlen, pf, mf, hl, hcl⟩ := id hps
   obtain ⟨kk, b0, b1, b2⟩ := boxes33 (w := w) (t := 31) (t' := 47) (t'' := 31) (x0 := .int .i64 it) (x1 := .slice pa ps.length cap) (x2 := .slice qa n qc) (y0 := .int .i64 k) (y1 := .int .i64 a) (y2 := .int .i64 b) (z0 := .int .i64 0) (z1 := .slice none 0 0) (z2 := .slice none 0 0)
    (R := fun W => Chg No w W ∧ Box3 W w.heap.size (.int .i64 it) (.slice pa ps.length cap) (.slice qa n qc) ∧ Box3 W (w.heap.size + 1) (.int .i64 k) (.int .i64 a) (.int .i64 b) ∧ Box3 W (w.heap.size + 1 + 1) (.int .i64 0) (.slice none 0 0) (.slice none 0 0)) (fun W k b0 b1 b2 => ⟨k, b0, b1, b2⟩)
   obtain ⟨c0, c1, c2, _⟩ := id b0
   obtain ⟨d0, d1, d2, _⟩ := id b1
   clear hl hcl hps hrq
   unfold stV
   go_enter Tryz.func24, Tryz.ntmps24
   go_wp2_with fail
   refine (l12Tour_any _ _ _ (h0.keep kk)).mono ?_
   rintro e w3 ⟨_, rfl, rfl, k3⟩
   rw [HT.out]
   clear c0 c1 c2 d0 d1 d2
   replace b0 := b0.keep k3
   replace b1 := b1.keep k3
   replace b2 := b2.keep k3
   replace kk := kk.keep k3
   clear k3
   obtain ⟨c0, c1, c2, _⟩ := id b0
   obtain ⟨d0, d1, d2, _⟩ := id b1
   go_wp2_with fail
   refine (l12May_any _ ⟨it, ps, rq⟩ k a b w3 (h0.keep kk) HT.out).mono ?_
   rintro e w4 ⟨_, rfl, rfl, k3⟩
   rw [HS.out]
   clear c0 c1 c2 d0 d1 d2
   replace b0 := b0.keep k3
   replace b1 := b1.keep k3
   replace b2 := b2.keep k3
   replace kk := kk.keep k3
   obtain ⟨e0, e1, e2, cf⟩ := id b2
   have cf0 := cf 0
   have cf1 := cf 1
   have cf2 := cf 2
   clear cf
   have hb2l := b2.lt
   obtain ⟨z0, z1, z2, _⟩ := ((b2.set0 (.int .i64 0)).set1 (.slice none 0 0)).set2 (.slice none 0 0)
   have HK := Lib.hid (kk.put3 (b := w.heap.size + 1 + 1) (fun h => by omega) (.int .i64 0) (.slice none 0 0) (.slice none 0 0))
   clear kk b2
   go_wp2_with fail
   exact bodyPost_ret (v := .tuple #[.agg #[.int .i64 0, .slice none 0 0, .slice none 0 0], .bool false]) (by simp [results, Tryz.results24, go_sem, z0, z1, z2]) rfl ⟨_, _, rfl, by rw [HO.out], by rw [HV.out]; exact TA.zero _ _, HK.out⟩
  ·have HO : Hid (ok = true) := Lib.hid (by rw [← hO, okS, ht, hs]; rfl)
   have HV : Hid (stepT t k a b = tv) := Lib.hid (by rw [← hV, stS, okS, ht, hs]; rfl)
   have HT := Lib.hid ht
   have HS := Lib.hid hs
   clear hO hV ht hs
   obtain ⟨it, ps, rq⟩ := t
   obtain ⟨pv, qv, rfl, hps, hrq⟩ := h
   simp only at hps hrq
   obtain ⟨qa, n, qc, rfl⟩ := hrq.shape
   obtain ⟨pa, cap, rfl, hcap, hmax, hlen, pf, mf, hl, hcl⟩ := id hps
   obtain ⟨kk, b0, b1, b2⟩ := boxes33 (w := w) (t := 31) (t' := 47) (t'' := 31) (x0 := .int .i64 it) (x1 := .slice pa ps.length cap) (x2 := .slice qa n qc) (y0 := .int .i64 k) (y1 := .int .i64 a) (y2 := .int .i64 b) (z0 := .int .i64 0) (z1 := .slice none 0 0) (z2 := .slice none 0 0)
    (R := fun W => Chg No w W ∧ Box3 W w.heap.size (.int .i64 it) (.slice pa ps.length cap) (.slice qa n qc) ∧ Box3 W (w.heap.size + 1) (.int .i64 k) (.int .i64 a) (.int .i64 b) ∧ Box3 W (w.heap.size + 1 + 1) (.int .i64 0) (.slice none 0 0) (.slice none 0 0)) (fun W k b0 b1 b2 => ⟨k, b0, b1, b2⟩)
   obtain ⟨c0, c1, c2, _⟩ := id b0
   obtain ⟨d0, d1, d2, _⟩ := id b1
   clear hl hcl hps hrq
   unfold stV
   go_enter Tryz.func24, Tryz.ntmps24
   go_wp2_with fail
   refine (l12Tour_any _ _ _ (h0.keep kk)).mono ?_
   rintro e w3 ⟨_, rfl, rfl, k3⟩
   rw [HT.out]
   clear c0 c1 c2 d0 d1 d2
   replace b0 := b0.keep k3
   replace b1 := b1.keep k3
   replace b2 := b2.keep k3
   replace kk := kk.keep k3
   clear k3
   obtain ⟨c0, c1, c2, _⟩ := id b0
   obtain ⟨d0, d1, d2, _⟩ := id b1
   go_wp2_with fail
   refine (l12May_any _ ⟨it, ps, rq⟩ k a b w3 (h0.keep kk) HT.out).mono ?_
   rintro e w4 ⟨_, rfl, rfl, k3⟩
   rw [HS.out]
   clear c0 c1 c2 d0 d1 d2
   replace b0 := b0.keep k3
   replace b1 := b1.keep k3
   replace b2 := b2.keep k3
   replace kk := kk.keep k3
   clear k3
   have hs0 := b2.lt
   obtain ⟨c0, c1, c2, _⟩ := id b0
   obtain ⟨d0, d1, d2, _⟩ := id b1
   go_wp2_with fail
   refine (l12Make_any _ ⟨it, ps, rq⟩ k a b w4 (h0.keep kk) HT.out HS.out).mono ?_
   rintro e w5 ⟨v3, rfl, hTA, k3⟩
   rw [HV.out] at hTA
   clear c0 c1 c2 d0 d1 d2
   replace b0 := b0.keep k3
   replace b1 := b1.keep k3
   replace b2 := b2.keep k3
   replace kk := kk.keep k3
   obtain ⟨e0, e1, e2, cf⟩ := id b2
   have cf0 := cf 0
   have cf1 := cf 1
   have cf2 := cf 2
   clear cf
   have hb2l := b2.lt
   obtain ⟨iN, p1, p2, p3, r1, r2, r3, rfl, hTN⟩ := hTA.put3 (b := w.heap.size + 1 + 1) (by omega)
   obtain ⟨z0, z1, z2, _⟩ := ((b2.set0 (.int .i64 iN)).set1 (.slice p1 p2 p3)).set2 (.slice r1 r2 r3)
   have HK := Lib.hid (kk.put3 (b := w.heap.size + 1 + 1) (fun h => by omega) (.int .i64 iN) (.slice p1 p2 p3) (.slice r1 r2 r3))
   have HTN := Lib.hid (hTN.weak (base' := w.heap.size) (by omega))
   clear hTA hTN kk b2
   go_wp2_with fail
   exact bodyPost_ret (v := .tuple #[.agg #[.int .i64 iN, .slice p1 p2 p3, .slice r1 r2 r3], .bool true]) (by simp [results, Tryz.results24, go_sem, z0, z1, z2]) rfl ⟨_, _, rfl, (by rw [HO.out]), HTN.out, HK.out⟩
end Go.Proofs.YtdgcohoneijleaaGreatDoor
namespace Go.Proofs.YtdgcohoneijleaaGreatDoor
open Go.RowKit
def TAU (lo hi : Nat) (w : World) (v : Value) (t : To) : Prop :=
 ∃ pv pf mf rv, v = .agg #[.int .i64 t.items, pv, rv] ∧ PA lo w pv t.ps pf mf ∧ OI lo w rv t.reqs ∧ (∀ q, FA pv t.ps.length pf mf q → ¬ own rv q) ∧ (∀ q, FA pv t.ps.length pf mf q → q < hi) ∧ ∀ q, own rv q → q < hi
theorem TA.u {base : Nat} {w : World} {v : Value} {t : To} (h : TA base w v t) : TAU base w.heap.size w v t := by
 obtain ⟨pv, pf, mf, rv, h1, h2, h3, h4⟩ := h
 exact ⟨pv, pf, mf, rv, h1, h2, h3, h4, fun q hq => (h2.inF q hq).2, fun q hq => (h3.lt q hq).2⟩
theorem TAU.step {lo hi : Nat} {w w' : World} {v : Value} {t : To} {S : Nat → Prop} (h : TAU lo hi w v t) (hc : Chg S w w') (hS : ∀ q, lo ≤ q → q < hi → ¬ S q) : TAU lo hi w' v t := by
 obtain ⟨pv, pf, mf, rv, h1, h2, h3, h4, h5, h6⟩ := h
 exact ⟨pv, pf, mf, rv, h1, h2.step hc (fun q hq => hS q (h2.inF q hq).1 (h5 q hq)), h3.step hc (fun q hq => hS q (h3.lt q hq).1 (h6 q hq)), h4, h5, h6⟩
theorem TAU.keep {lo hi : Nat} {w w' : World} {v : Value} {t : To} (h : TAU lo hi w v t) (hc : Chg No w w') : TAU lo hi w' v t := h.step hc (fun _ _ _ e => e)
theorem TAU.rt {lo hi : Nat} {w : World} {v : Value} {t : To} (h : TAU lo hi w v t) (hn : t.ps.length ≤ 1048576) : RT No w v t := by
 obtain ⟨pv, pf, mf, rv, h1, h2, h3, h4, _⟩ := h
 exact ⟨_, _, h1, h2.read hn (fun _ _ e => e), h3.read (fun _ _ e => e)⟩
theorem TAU.shape {lo hi : Nat} {w : World} {v : Value} {t : To} (h : TAU lo hi w v t) : ∃ pa pn pc ra rn rc, v = .agg #[.int .i64 t.items, .slice pa pn pc, .slice ra rn rc] := by
 obtain ⟨pv, pf, mf, rv, rfl, h2, h3, _⟩ := h
 obtain ⟨pa, pc, rfl, _⟩ := h2.os.view
 obtain ⟨ra, rn, rc, rfl⟩ := h3.shape
 exact ⟨_, _, _, _, _, _, rfl⟩
end Go.Proofs.YtdgcohoneijleaaGreatDoor
