import Derived.Test.YtodnkkmjjlfoiaaGreatDp
/- PlaySteps (program) -/
namespace Go.Proofs.YtodnkkmjjlfoiaaGreat
open Go.RowKit

set_option maxRecDepth 100000 in
set_option maxHeartbeats 8000000 in
theorem implPlay_any (v vs : Value) (t : To) (ss : List St3) (w : World) (h : RT No w v t) (hss : RSS No w vs ss) (ok : Bool) (hO : tourB t = ok) (nv : Int) (hN : plN t ss = nv) (tv : To) (hV : plT t ss = tv) :
    Calls Tryz.prog 11 #[v, vs] w fun e w' => ∃ v0, e = .returned (.tuple #[v0, .int .i64 nv, .bool ok]) ∧ TA w.heap.size w' v0 tv ∧ Chg No w w' := by
  have h0 := h
  cases ht : tourB t
  · have HO : Hid (ok = false) := Lib.hid (by rw [← hO, ht])
    have HN : Hid (nv = 0) := Lib.hid (by rw [← hN, plN, ht]; rfl)
    have HV : Hid (tv = zeroT) := Lib.hid (by rw [← hV, plT, ht]; rfl)
    have HT := Lib.hid ht
    have hok : ok = false := HO.out
    subst hok
    clear hO hN hV ht HO
    obtain ⟨it, ps, rq⟩ := t
    obtain ⟨pv, qv, rfl, hps, hrq⟩ := h
    simp only at hps hrq
    obtain ⟨qa, qn, qc, rfl⟩ := hrq.shape
    obtain ⟨pa, cap, rfl, hcap, hmax, hlen, pf, mf, hl, hcl⟩ := id hps
    obtain ⟨kk, b0, b2⟩ := boxes32 (w := w) (t := 31) (t' := 31) (x0 := .int .i64 it) (x1 := .slice pa ps.length cap) (x2 := .slice qa qn qc) (y0 := .int .i64 0) (y1 := .slice none 0 0) (y2 := .slice none 0 0)
      (R := fun W => Chg No w W ∧ Box3 W w.heap.size (.int .i64 it) (.slice pa ps.length cap) (.slice qa qn qc) ∧ Box3 W (w.heap.size + 1) (.int .i64 0) (.slice none 0 0) (.slice none 0 0)) (fun W k b0 b1 => ⟨k, b0, b1⟩)
    obtain ⟨c0, c1, c2, _⟩ := id b0
    obtain ⟨sa, sc, rfl, hsc, hscm, hsn, hsc4⟩ := id hss
    have HSC := Lib.hid hsc4
    have HRQ := Lib.hid hrq
    clear hl hcl hps hrq hsc4
    go_enter Tryz.func11, Tryz.ntmps11
    go_wp2_with fail
    refine (IsTournament_any _ _ _ (h0.keep kk)).mono ?_
    rintro e w3 ⟨_, rfl, rfl, k3⟩
    rw [HT.out]
    clear c0 c1 c2
    replace b2 := b2.keep k3
    replace kk := kk.keep k3
    obtain ⟨e0, e1, e2, cf⟩ := id b2
    have cf0 := cf 0
    have cf1 := cf 1
    have cf2 := cf 2
    clear cf
    have hb2l := b2.lt
    obtain ⟨z0, z1, z2, _⟩ := ((b2.set0 (.int .i64 0)).set1 (.slice none 0 0)).set2 (.slice none 0 0)
    have HK := Lib.hid (kk.put3 (b := w.heap.size + 1) (fun h => by omega) (.int .i64 0) (.slice none 0 0) (.slice none 0 0))
    clear kk b2
    go_wp2_with fail
    exact bodyPost_ret (v := .tuple #[.agg #[.int .i64 0, .slice none 0 0, .slice none 0 0], .int .i64 0, .bool false]) (by simp [results, Tryz.results11, go_sem, z0, z1, z2]) rfl ⟨_, by rw [HN.out], by rw [HV.out]; exact TA.zero _ _, HK.out⟩
  · have HN : Hid (nv = (playN t ss : Int)) := Lib.hid (by rw [← hN, plN, ht]; rfl)
    have HV : Hid (tv = iterT t ss (playN t ss)) := Lib.hid (by rw [← hV, plT, ht]; rfl)
    have hok : ok = true := by rw [← hO, ht]
    subst hok
    have HT := Lib.hid ht
    have HSV := Lib.hid (sv_of ht)
    have hself : againP t.ps t.reqs = t.ps := again_self ht
    have HSELF := Lib.hid hself
    clear hO hN hV ht hself
    obtain ⟨t0, ht0⟩ : ∃ t0, t = t0 := ⟨_, rfl⟩
    have HT0 := Lib.hid (ht0 ▸ HT.out : tourB t0 = true)
    rw [ht0] at HN HV
    obtain ⟨it, ps, rq⟩ := t
    obtain ⟨pv, qv, rfl, hps, hrq⟩ := h
    simp only at hps hrq
    obtain ⟨qa, qn, qc, rfl⟩ := hrq.shape
    obtain ⟨pa, cap, rfl, hcap, hmax, hlen, pf, mf, hl, hcl⟩ := id hps
    obtain ⟨kk, b0, b2⟩ := boxes32 (w := w) (t := 31) (t' := 31) (x0 := .int .i64 it) (x1 := .slice pa ps.length cap) (x2 := .slice qa qn qc) (y0 := .int .i64 0) (y1 := .slice none 0 0) (y2 := .slice none 0 0)
      (R := fun W => Chg No w W ∧ Box3 W w.heap.size (.int .i64 it) (.slice pa ps.length cap) (.slice qa qn qc) ∧ Box3 W (w.heap.size + 1) (.int .i64 0) (.slice none 0 0) (.slice none 0 0)) (fun W k b0 b1 => ⟨k, b0, b1⟩)
    obtain ⟨c0, c1, c2, _⟩ := id b0
    obtain ⟨sa, sc, rfl, hsc, hscm, hsn, hsc4⟩ := id hss
    have HSC := Lib.hid hsc4
    have HRQ := Lib.hid hrq
    clear hl hcl hps hrq hsc4
    go_enter Tryz.func11, Tryz.ntmps11
    go_wp2_with fail
    refine (IsTournament_any _ _ _ (h0.keep kk)).mono ?_
    rintro e w3 ⟨_, rfl, rfl, k3⟩
    rw [HT.out]
    clear c0 c1 c2
    replace b0 := b0.keep k3
    replace b2 := b2.keep k3
    replace kk := kk.keep k3
    obtain ⟨c0, c1, c2, _⟩ := id b0
    go_wp2_with fail
    refine (again_any _ _ ⟨it, ps, rq⟩ rq w3 (h0.keep kk) (HRQ.out.keep kk) HSV.out).mono ?_
    rintro e w4 ⟨v4, rfl, hTA, k4⟩
    clear c0 c1 c2
    have hb2 := b2.lt
    have hTA0 : TA w3.heap.size w4 v4 t0 := by rw [← ht0]; have e := HSELF.out; simp only at e hTA; rw [e] at hTA; exact hTA
    obtain ⟨p1, p2, p3, r1, r2, r3, rfl, _⟩ := hTA0.put3i (b := w.heap.size) (by omega)
    have hz4 := k4.size
    have b7 := Box3.new w4 (.int .i64 t0.items) (.slice p1 p2 p3) (.slice r1 r2 r3) 31
    have ka := (Chg.refl No w4).alloc (.cells #[.int .i64 t0.items, .slice p1 p2 p3, .slice r1 r2 r3] 31)
    replace b2 := (b2.keep k4).keep ka
    replace kk := (kk.keep k4).keep ka
    have hTA1 := (hTA0.keep ka).weak (base' := w.heap.size + 2) (by omega)
    clear hTA hTA0 b0 k3 k4
    have HH := Lib.hid (And.intro b7 (And.intro b2 (And.intro kk hTA1)))
    clear b7 b2 kk hTA1 ka
    go_wp2_with fail
    obtain ⟨b7, b2, kk, hTA⟩ := HH.out
    obtain ⟨B7, hB7⟩ : ∃ B7, w4.heap.size = B7 := ⟨_, rfl⟩
    rw [hB7] at b7 ⊢
    have hB7h : w.heap.size + 1 < B7 := by omega
    clear HH
    generalize w4.alloc (.cells #[.int .i64 t0.items, .slice p1 p2 p3, .slice r1 r2 r3] 31) = W5 at b7 b2 kk hTA ⊢
    have hP := playN_spec t0 ss
    have HP := Lib.hid hP
    clear hP
    go_loopw [22] (fun i wr => ∃ (j : Nat) (p1 p2 p3 : _) (r1 r2 r3 : _), j ≤ playN t0 ss ∧ i = .int .i64 (j : Int) ∧ Box3 wr B7 (.int .i64 (iterT t0 ss j).items) (.slice p1 p2 p3) (.slice r1 r2 r3) ∧
      TA (w.heap.size + 2) wr (.agg #[.int .i64 (iterT t0 ss j).items, .slice p1 p2 p3, .slice r1 r2 r3]) (iterT t0 ss j) ∧ Box3 wr (w.heap.size + 1) (.int .i64 0) (.slice none 0 0) (.slice none 0 0) ∧ Chg No w wr) (fun i _ => ss.length - (intOf i).toNat)
    case atStart => exact ⟨0, _, _, _, _, _, _, Nat.zero_le _, rfl, b7, hTA, b2, kk⟩
    case round =>
      clear b7 b2 kk hTA
      obtain ⟨j, p1, p2, p3, r1, r2, r3, hj, rfl, b7, hTA, b2, kk⟩ := hrel
      have hv := iterT_valid (t := t0) HT0.out (ss := ss) j (fun i hi => HP.out.2.1 i (by omega))
      obtain ⟨u, hu⟩ : ∃ u, iterT t0 ss j = u := ⟨_, rfl⟩
      have HU := Lib.hid hu
      rw [hu] at b7 hTA hv
      obtain ⟨k7, hk7⟩ : ∃ x, u.items = x := ⟨_, rfl⟩
      rw [hk7] at b7 hTA
      have HSL := Lib.hid (show u.ps.length ≤ 1048576 by have := (tour_len hv).1; omega)
      have HVA := Lib.hid hv
      clear hv
      by_cases hlt : j < ss.length
      · obtain ⟨b, off, rfl, _, hb, hcell⟩ := HSC.out (by intro e; simp [e] at hlt)
        have h3 := (hcell j hlt).step kk hb (fun e => e)
        obtain ⟨y, hy⟩ : ∃ y, ss.getD j dSt = y := ⟨_, rfl⟩
        rw [hy] at h3
        have HY := Lib.hid hy
        have hj0 : (0 : Int) ≤ (j : Int) := Int.natCast_nonneg _
        have hj1 : (j : Int) < (ss.length : Int) := by omega
        obtain ⟨f0, f1, f2⟩ := id h3
        have b9 := Box3.new wr (.int .i64 y.k) (.int .i64 y.a) (.int .i64 y.b) 49
        have ka := (Chg.refl No wr).alloc (.cells #[.int .i64 y.k, .int .i64 y.a, .int .i64 y.b] 49)
        have hB7w := b7.lt
        replace b7 := b7.keep ka
        replace b2 := b2.keep ka
        replace kk := kk.keep ka
        replace hTA := hTA.keep ka
        obtain ⟨c0, c1, c2, _⟩ := id b7
        obtain ⟨d0, d1, d2, _⟩ := id b9
        have HH := Lib.hid (And.intro b7 (And.intro b2 (And.intro kk hTA)))
        obtain ⟨BB, hBB⟩ : ∃ BB, okStep u y.k y.a y.b = BB := ⟨_, rfl⟩
        have HBB := Lib.hid hBB
        clear b7 b2 kk hTA ka b9 h3 hu hy hcell hBB
        go_wp2_with fail
        obtain ⟨b7, b2, kk, hTA⟩ := HH.out
        have q1 := tourStep_any _ u y.k y.a y.b _ (hTA.rt HSL.out (fun _ _ e => e)) HVA.out
        rw [HBB.out] at q1
        unfold stV at q1
        refine q1.mono ?_
        rintro e w4 ⟨v4, _, rfl, rfl, hTN, k4⟩
        clear q1 c0 c1 c2 d0 d1 d2 f0 f1 f2 HH
        have hbs := b7.lt
        obtain ⟨n1, n2, n3, s1, s2, s3, rfl, _⟩ := hTN.put3i (b := B7) hbs
        have hs4 := k4.size
        replace b7 := b7.keep k4
        replace b2 := b2.keep k4
        replace kk := kk.keep k4
        replace hTA := hTA.keep k4
        clear k4
        generalize (wr.alloc (.cells #[.int .i64 y.k, .int .i64 y.a, .int .i64 y.b] 49)).heap.size = sA at hTN hbs hs4
        obtain ⟨x, hx⟩ : ∃ x, resT u y.k y.a y.b = x := ⟨_, rfl⟩
        have HX := Lib.hid hx
        rw [hx] at hTN ⊢
        obtain ⟨x0, hx0⟩ : ∃ z, x.items = z := ⟨_, rfl⟩
        have HX0 := Lib.hid hx0
        rw [hx0] at hTN ⊢
        have b10 := Box3.new w4 (.int .i64 x0) (.slice n1 n2 n3) (.slice s1 s2 s3) 31
        have kb := (Chg.refl No w4).alloc (.cells #[.int .i64 x0, .slice n1 n2 n3, .slice s1 s2 s3] 31)
        replace b7 := b7.keep kb
        replace b2 := b2.keep kb
        replace kk := kk.keep kb
        replace hTA := hTA.keep kb
        replace hTN := hTN.keep kb
        clear hx hx0 kb
        cases BB
        · have hjE : j = playN t0 ss := playEnd_uni ⟨by omega, fun i hi => HP.out.2.1 i (by omega), fun _ => by rw [HU.out, HY.out]; exact HBB.out⟩ HP.out
          have HNJ : Hid (nv = (j : Int)) := Lib.hid (by rw [HN.out, ← hjE])
          have HVU : Hid (tv = u) := Lib.hid (by rw [HV.out, ← hjE, HU.out])
          clear hjE hTN b10 hlt hj
          obtain ⟨e0, e1, e2, cf⟩ := id b2
          have cf0 := cf 0
          have cf1 := cf 1
          have cf2 := cf 2
          clear cf
          have hb2l := b2.lt
          obtain ⟨z0, z1, z2, _⟩ := ((b2.set0 (.int .i64 k7)).set1 (.slice p1 p2 p3)).set2 (.slice r1 r2 r3)
          have hTS := hTA.stepB (b := w.heap.size + 1) (by omega) (.int .i64 k7) (.slice p1 p2 p3) (.slice r1 r2 r3)
          have HK := Lib.hid (kk.put3 (b := w.heap.size + 1) (fun h => by omega) (.int .i64 k7) (.slice p1 p2 p3) (.slice r1 r2 r3))
          have HTN := Lib.hid (hTS.weak (base' := w.heap.size) (by omega))
          obtain ⟨c0, c1, c2, _⟩ := id b7
          clear hTA hTS kk b2 b7
          go_wp2_with fail
          exact bodyPost_ret (v := .tuple #[.agg #[.int .i64 k7, .slice p1 p2 p3, .slice r1 r2 r3], .int .i64 (j : Int), .bool true]) (by simp [results, Tryz.results11, go_sem, z0, z1, z2]) rfl ⟨_, by rw [HNJ.out], by rw [HVU.out]; exact HTN.out, HK.out⟩
        · have hjL : j + 1 ≤ playN t0 ss := by
            rcases Nat.lt_or_ge j (playN t0 ss) with h | h
            · exact h
            · exfalso
              have e : j = playN t0 ss := by omega
              have h5 := HP.out.2.2 (by omega)
              rw [← e, HU.out, HY.out] at h5
              unfold okAt at h5
              rw [HBB.out] at h5
              cases h5
          have HIT : Hid (iterT t0 ss (j + 1) = x) := Lib.hid (by show stepT (iterT t0 ss j) (ss.getD j dSt).k (ss.getD j dSt).a (ss.getD j dSt).b = _; rw [HU.out, HY.out, ← HX.out, resT_yes HBB.out])
          obtain ⟨d0, d1, d2, _⟩ := id b10
          obtain ⟨c0, c1, c2, cf⟩ := id b7
          have cf0 := cf 0
          have cf1 := cf 1
          have cf2 := cf 2
          clear cf
          have hTP := hTN.stepB (b := B7) hbs (.int .i64 x0) (.slice n1 n2 n3) (.slice s1 s2 s3)
          have hwx := kk.size
          have hb2 := b2.lt
          have HE := Lib.hid (And.intro (((b7.set0 (.int .i64 x0)).set1 (.slice n1 n2 n3)).set2 (.slice s1 s2 s3)) (And.intro (hTP.weak (base' := w.heap.size + 2) (by omega)) (And.intro
            (((b2.far ⟨B7, 0, none⟩ (.int .i64 x0) (by show B7 ≠ _; omega)).far ⟨B7, 1, none⟩ (.slice n1 n2 n3) (by show B7 ≠ _; omega)).far ⟨B7, 2, none⟩ (.slice s1 s2 s3) (by show B7 ≠ _; omega))
            (kk.put3 (b := B7) (fun h => by omega) (.int .i64 x0) (.slice n1 n2 n3) (.slice s1 s2 s3)))))
          have hw1 : IntKind.i64.wrap ((j : Int) + 1) = (j : Int) + 1 := IntWalk.i64_in _ (by omega)
          clear b7 b2 kk hTA hTN hTP b10
          go_wp2_with fail
          go_round
          case measure => simp [intOf]; omega
          case rel => exact ⟨j + 1, n1, n2, n3, s1, s2, s3, hjL, by go_num, by rw [HIT.out, HX0.out]; exact HE.out.1, by rw [HIT.out, HX0.out]; exact HE.out.2.1, HE.out.2.2.1, HE.out.2.2.2⟩
      · have hje : j = playN t0 ss := by have := HP.out.1; omega
        have hjn : j = ss.length := by have := HP.out.1; omega
        have HNJ : Hid (nv = (ss.length : Int)) := Lib.hid (by rw [HN.out, ← hje, hjn])
        have HVU : Hid (tv = u) := Lib.hid (by rw [HV.out, ← hje, HU.out])
        have hj1 : ¬ (j : Int) < (ss.length : Int) := by omega
        clear hu hje hjn hlt
        have hB7l := b7.lt
        obtain ⟨e0, e1, e2, cf⟩ := id b2
        have cf0 := cf 0
        have cf1 := cf 1
        have cf2 := cf 2
        clear cf
        have hb2l := b2.lt
        obtain ⟨z0, z1, z2, _⟩ := ((b2.set0 (.int .i64 k7)).set1 (.slice p1 p2 p3)).set2 (.slice r1 r2 r3)
        have hTS := hTA.stepB (b := w.heap.size + 1) (by omega) (.int .i64 k7) (.slice p1 p2 p3) (.slice r1 r2 r3)
        have HK := Lib.hid (kk.put3 (b := w.heap.size + 1) (fun h => by omega) (.int .i64 k7) (.slice p1 p2 p3) (.slice r1 r2 r3))
        have HTN := Lib.hid (hTS.weak (base' := w.heap.size) (by omega))
        obtain ⟨c0, c1, c2, _⟩ := id b7
        clear hTA hTS kk b2 b7
        go_wp2_with fail
        exact bodyPost_ret (v := .tuple #[.agg #[.int .i64 k7, .slice p1 p2 p3, .slice r1 r2 r3], .int .i64 (ss.length : Int), .bool true]) (by simp [results, Tryz.results11, go_sem, z0, z1, z2]) rfl ⟨_, by rw [HNJ.out], by rw [HVU.out]; exact HTN.out, HK.out⟩
end Go.Proofs.YtodnkkmjjlfoiaaGreat
