import Derived.Test.YtndhijckbponkaaGreatXa
import Derived.Test.YtndhijckbponkaaGreatRz
import Derived.Test.YtndhijckbponkaaGreatPkX12
/- the expected cost of an algorithm: the program's walk -/
namespace Go.Proofs.YtndhijckbponkaaGreat
open Go.RowKit

theorem bx4 {w : World} {xs ys zs us : Array Value} {T U V X : TypeId} {R : World → Prop} (h : ∀ W, Chg No w W → W.heap.size = w.heap.size + 1 + 1 + 1 + 1 → BoxN W w.heap.size xs.toList → BoxN W (w.heap.size + 1) ys.toList → BoxN W (w.heap.size + 1 + 1) zs.toList → BoxN W (w.heap.size + 1 + 1 + 1) us.toList → R W) :
    R ((((w.alloc (.cells xs T)).alloc (.cells ys U)).alloc (.cells zs V)).alloc (.cells us X)) := by
  refine bx3 (R := fun W => W.heap.size = w.heap.size + 1 + 1 + 1 → R (W.alloc (.cells us X))) (fun W k b0 b1 b2 hz => ?_) (by simp [World.size_alloc])
  have b := BoxN.new W us X
  rw [hz] at b
  have ka := (Chg.refl No W).alloc (.cells us X)
  exact h _ (k.keep ka) (by rw [World.size_alloc, hz]) (b0.keep ka) (b1.keep ka) (b2.keep ka) b
theorem bx5 {w : World} {xs ys zs us vs : Array Value} {T U V X Y : TypeId} {R : World → Prop} (h : ∀ W, Chg No w W → BoxN W w.heap.size xs.toList → BoxN W (w.heap.size + 1) ys.toList → BoxN W (w.heap.size + 1 + 1) zs.toList → BoxN W (w.heap.size + 1 + 1 + 1) us.toList → BoxN W (w.heap.size + 1 + 1 + 1 + 1) vs.toList → R W) :
    R (((((w.alloc (.cells xs T)).alloc (.cells ys U)).alloc (.cells zs V)).alloc (.cells us X)).alloc (.cells vs Y)) := by
  refine bx4 (R := fun W => R (W.alloc (.cells vs Y))) (fun W k hz b0 b1 b2 b3 => ?_)
  have b := BoxN.new W vs Y
  rw [hz] at b
  have ka := (Chg.refl No W).alloc (.cells vs Y)
  exact h _ (k.keep ka) (b0.keep ka) (b1.keep ka) (b2.keep ka) (b3.keep ka) b
theorem cfCost (x c0 c1 c2 : Value) (w : World) : (callFunc 39 #[x, c0, c1, c2]).run Tryz.prog w = .ok (.enter 39 #[x, c0, c1, c2]) w := by kernel_rfl
set_option maxRecDepth 100000 in
set_option maxHeartbeats 1000000 in
theorem expectedCost1_any (A B C : Nat → Prop) (mv sv nv qv : Value) (p : Pr) (nx : List (List Int)) (S : Nat) (q : List Int) (b0 b1 b2 : Nat) (w : World) (hp : PrP p) (hn : AlgP p nx) (h : RPr A w (.agg #[mv, sv]) p) (hnx : RII B w nv nx) (hq : RI C w qv q) (hS : S < p.mv.length) (hqr : ∀ r ∈ q, 0 ≤ r ∧ r < (p.sv.length : Int)) (hql : q.length ≤ 60)
    (hb0 : BoxN w b0 [mv, sv]) (hb1 : BoxN w b1 [nv]) (hb2 : BoxN w b2 [.int .i64 (S : Int)]) :
    Calls Tryz.prog 39 #[qv, .pointer (some ⟨b0, 0, none⟩), .pointer (some ⟨b1, 0, none⟩), .pointer (some ⟨b2, 0, none⟩)] w (Ret fun r w' => r = .int .i64 (rest p (algT nx) S [] q) ∧ Chg No w w') := by
  have g0 := hb0.c 0 _ rfl
  have g1 := hb0.c 1 _ rfl
  have g2 := hb1.c 0 _ rfl
  have g3 := hb2.c 0 _ rfl
  obtain ⟨qa, qc, rfl, _⟩ := id hq
  obtain ⟨na, nc, rfl⟩ := hnx.shape
  go_enter Tryz.func39, Tryz.ntmps39
  go_wp2_with fail
  refine (ran_any A B C _ _ _ p nx S q _ hp hn h hnx hq hS hqr hql).mono ?_
  rintro e w1 ⟨v0, rfl, k1⟩
  go_wp2_with fail
  go_ret
  exact ⟨_, rfl, rfl, k1⟩
set_option maxRecDepth 100000 in
set_option maxHeartbeats 2000000 in
theorem implExpectedCost_any (A B : Nat → Prop) (v nv cv : Value) (p : Pr) (nx : List (List Int)) (s : Int) (qs : List (List Int)) (ws : List Int) (w : World) (hp : RPr A w v p) (hn : RII B w nv nx) (hc : RCh A w cv qs ws) :
    Calls Tryz.prog 11 #[v, nv, .int .i64 s, cv] w (Ret2 fun v0 v1 w' => v0 = .agg #[.int .i64 (ecoV p nx s qs ws).num, .int .i64 (ecoV p nx s qs ws).den] ∧ v1 = .bool (ecoV p nx s qs ws).ok ∧ Chg No w w') := by
  have hv := hp
  have hcv := hc
  obtain ⟨mv, sv', rfl, hm, hsv⟩ := hp
  obtain ⟨wv, qv, rfl, hw, hq⟩ := hc
  obtain ⟨ma, mc, rfl⟩ := hm.shape
  obtain ⟨sa, sc, rfl⟩ := hsv.shape
  obtain ⟨qa, qc, rfl⟩ := hq.shape
  obtain ⟨wa, wc, rfl, _⟩ := id hw
  obtain ⟨na, nc, rfl⟩ := hn.shape
  cases hd : drawB p s qs ws
  · have HV : Hid (ecoV p nx s qs ws = ⟨0, 0, false⟩) := Lib.hid (by unfold ecoV; rw [hd]; rfl)
    have HD := Lib.hid hd
    clear hd
    go_enter Tryz.func11, Tryz.ntmps11
    go_wp2_with fail
    refine bx5 (R := fun W => Calls _ _ _ W _) (fun W0 k0 b0 b1 b2 b3 b4 => ?_)
    refine (isDrawn_any _ _ _ p s qs ws W0 (hv.keep k0) (hcv.keep k0)).mono ?_
    rintro e w1 ⟨_, rfl, rfl, k1⟩
    rw [HD.out]
    have kk := k0.keep k1
    have b4 := b4.keep k1
    have f0 := b4.fr 0
    have f1 := b4.fr 1
    have g0 := b4.c 0 _ rfl
    have g1 := b4.c 1 _ rfl
    have hsz := b4.lt
    obtain ⟨S2, hS2⟩ : ∃ S2, w.heap.size + 1 + 1 + 1 + 1 = S2 := ⟨_, rfl⟩
    rw [hS2] at b4 f0 f1 g0 g1 hsz ⊢
    have b5 := (b4.set (i := 0) (by simp) (.int .i64 0)).set (i := 1) (by simp) (.int .i64 0)
    have z0 := b5.c 0 _ rfl
    have z1 := b5.c 1 _ rfl
    have kk := (kk.setCell (p := ⟨S2, 0, none⟩) (fun h => by simp at h; omega) (.int .i64 0)).setCell (p := ⟨S2, 1, none⟩) (fun h => by simp at h; omega) (.int .i64 0)
    go_wp2_with fail
    exact bodyPost_ret (v := .tuple #[.agg #[.int .i64 0, .int .i64 0], .bool false]) (by simp [results, Tryz.results11, go_sem, z0, z1]) rfl ⟨_, _, rfl, by rw [HV.out], by rw [HV.out], kk⟩
  have hpp0 := (drawB_facts hd).1
  cases ha : bP (AlgP p nx)
  · have HV : Hid (ecoV p nx s qs ws = ⟨0, 0, false⟩) := Lib.hid (by unfold ecoV; rw [hd, ha]; rfl)
    have HD := Lib.hid hd
    have HA := Lib.hid ha
    clear hd ha
    go_enter Tryz.func11, Tryz.ntmps11
    go_wp2_with fail
    refine bx5 (R := fun W => Calls _ _ _ W _) (fun W0 k0 b0 b1 b2 b3 b4 => ?_)
    refine (isDrawn_any _ _ _ p s qs ws W0 (hv.keep k0) (hcv.keep k0)).mono ?_
    rintro e w1 ⟨_, rfl, rfl, k1⟩
    rw [HD.out]
    have kk := k0.keep k1
    have g0 := (b0.keep k1).c 0 _ rfl
    have g1 := (b0.keep k1).c 1 _ rfl
    have g2 := (b1.keep k1).c 0 _ rfl
    go_wp2_with fail
    refine (isAlgorithm_any _ _ _ _ p nx w1 hpp0 (hv.keep kk) (hn.keep kk)).mono ?_
    rintro e w2 ⟨_, rfl, rfl, k2⟩
    rw [HA.out]
    have kk := kk.keep k2
    have b4 := b4.keep (k1.keep k2)
    clear g0 g1 g2
    have f0 := b4.fr 0
    have f1 := b4.fr 1
    have g0 := b4.c 0 _ rfl
    have g1 := b4.c 1 _ rfl
    have hsz := b4.lt
    obtain ⟨S2, hS2⟩ : ∃ S2, w.heap.size + 1 + 1 + 1 + 1 = S2 := ⟨_, rfl⟩
    rw [hS2] at b4 f0 f1 g0 g1 hsz ⊢
    have b5 := (b4.set (i := 0) (by simp) (.int .i64 0)).set (i := 1) (by simp) (.int .i64 0)
    have z0 := b5.c 0 _ rfl
    have z1 := b5.c 1 _ rfl
    have kk := (kk.setCell (p := ⟨S2, 0, none⟩) (fun h => by simp at h; omega) (.int .i64 0)).setCell (p := ⟨S2, 1, none⟩) (fun h => by simp at h; omega) (.int .i64 0)
    go_wp2_with fail
    exact bodyPost_ret (v := .tuple #[.agg #[.int .i64 0, .int .i64 0], .bool false]) (by simp [results, Tryz.results11, go_sem, z0, z1]) rfl ⟨_, _, rfl, by rw [HV.out], by rw [HV.out], kk⟩
  obtain ⟨hpp, hcc, hs0, hs1⟩ := drawB_facts hd
  obtain ⟨S, rfl⟩ : ∃ S : Nat, s = (S : Int) := ⟨s.toNat, by omega⟩
  have hS : S < p.mv.length := by omega
  have hal := bP_iff.1 ha
  have HV : Hid (ecoV p nx (S : Int) qs ws = mkFr (meV (rest p (algT nx) S []) qs ws qs.length) (sumW ws)) := Lib.hid (by unfold ecoV; rw [hd, ha, Int.toNat_natCast]; rfl)
  have HD := Lib.hid hd
  have HA := Lib.hid ha
  have HAL := Lib.hid hal
  have HP := Lib.hid (And.intro hpp hcc)
  have HOI : Hid (∀ i, i < qs.length → 0 ≤ rest p (algT nx) S [] (qs.getD i []) ∧ rest p (algT nx) S [] (qs.getD i []) ≤ 813) := Lib.hid (fun i hi => by
    have h1 := rest_in hpp hal hS (ch_seq hcc hi).2
    have h2 := (ch_seq hcc hi).1
    omega)
  clear hd ha hal hpp hcc hpp0
  go_enter Tryz.func11, Tryz.ntmps11
  go_wp2_with fail
  refine bx5 (R := fun W => Calls _ _ _ W _) (fun W0 k0 b0 b1 b2 b3 b4 => ?_)
  refine (isDrawn_any _ _ _ p (S : Int) qs ws W0 (hv.keep k0) (hcv.keep k0)).mono ?_
  rintro e w1 ⟨_, rfl, rfl, k1⟩
  rw [HD.out]
  have g0 := (b0.keep k1).c 0 _ rfl
  have g1 := (b0.keep k1).c 1 _ rfl
  have g2 := (b1.keep k1).c 0 _ rfl
  have kk := k0.keep k1
  go_wp2_with fail
  refine (isAlgorithm_any _ _ _ _ p nx w1 HP.out.1 (hv.keep kk) (hn.keep kk)).mono ?_
  rintro e w2 ⟨_, rfl, rfl, k2⟩
  rw [HA.out]
  replace kk := kk.keep k2
  replace b0 := b0.keep (k1.keep k2)
  replace b1 := b1.keep (k1.keep k2)
  replace b2 := b2.keep (k1.keep k2)
  replace b3 := b3.keep (k1.keep k2)
  replace b4 := b4.keep (k1.keep k2)
  clear g0 g1 g2 k1 k2 k0
  have g0 := b3.c 0 _ rfl
  have g1 := b3.c 1 _ rfl
  go_wp2_with fail
  refine (mean3_any A _ qs ws w2 (hcv.keep kk) p.sv.length HP.out.2 _ _ _ _ (rest p (algT nx) S []) (fun x w => cfCost x _ _ _ w) HOI.out (fun i xv W hi hW hr => expectedCost1_any A B A _ _ _ xv p nx S _ _ _ _ W HP.out.1 HAL.out ((hv.keep kk).keep hW) ((hn.keep kk).keep hW) hr hS (ch_seq HP.out.2 hi).2 (by have := (ch_seq HP.out.2 hi).1; omega) (b0.keep hW) (b1.keep hW) (b2.keep hW))).mono ?_
  rintro e w3 ⟨_, _, rfl, rfl, rfl, k3⟩
  replace kk := kk.keep k3
  replace b4 := b4.keep k3
  obtain ⟨fr, hfr⟩ : ∃ fr, mkFr (meV (rest p (algT nx) S []) qs ws qs.length) (sumW ws) = fr := ⟨_, rfl⟩
  rw [hfr] at HV ⊢
  clear b0 b1 b2 b3 g0 g1 k3 hfr
  have f0 := b4.fr 0
  have f1 := b4.fr 1
  have g0 := b4.c 0 _ rfl
  have g1 := b4.c 1 _ rfl
  have hsz := b4.lt
  obtain ⟨S2, hS2⟩ : ∃ S2, w.heap.size + 1 + 1 + 1 + 1 = S2 := ⟨_, rfl⟩
  rw [hS2] at b4 f0 f1 g0 g1 hsz ⊢
  have b5 := (b4.set (i := 0) (by simp) (.int .i64 fr.num)).set (i := 1) (by simp) (.int .i64 fr.den)
  have z0 := b5.c 0 _ rfl
  have z1 := b5.c 1 _ rfl
  have kk := (kk.setCell (p := ⟨S2, 0, none⟩) (fun h => by simp at h; omega) (.int .i64 fr.num)).setCell (p := ⟨S2, 1, none⟩) (fun h => by simp at h; omega) (.int .i64 fr.den)
  go_wp2_with fail
  exact bodyPost_ret (v := .tuple #[.agg #[.int .i64 fr.num, .int .i64 fr.den], .bool fr.ok]) (by simp [results, Tryz.results11, go_sem, z0, z1]) rfl ⟨_, _, rfl, by rw [HV.out], by rw [HV.out], kk⟩
end Go.Proofs.YtndhijckbponkaaGreat
