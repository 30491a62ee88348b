import Derived.Test.YtndhijckbponkaaGreatPkX17
import Derived.Test.YtndhijckbponkaaGreatXb
import Derived.Test.YtndhijckbponkaaGreatPkX16
import Derived.Test.YtndhijckbponkaaGreatPkX8
/- the expected least cost: the program's walk -/
namespace Go.Proofs.YtndhijckbponkaaGreat
open Go.RowKit

theorem cfLeast (x c0 c1 : Value) (w : World) : (callFunc 46 #[x, c0, c1]).run Tryz.prog w = .ok (.enter 46 #[x, c0, c1]) w := by kernel_rfl
set_option maxRecDepth 100000 in
set_option maxHeartbeats 1000000 in
theorem expectedLeast1_any (A C : Nat → Prop) (mv sv qv : Value) (p : Pr) (S : Nat) (q : List Int) (b0 b1 : Nat) (w : World) (hp : PrP p) (h : RPr A w (.agg #[mv, sv]) p) (hq : RI C w qv q) (hS : S < p.mv.length) (hqr : ∀ r ∈ q, 0 ≤ r ∧ r < (p.sv.length : Int)) (hql : q.length ≤ 60)
    (hb0 : BoxN w b0 [mv, sv]) (hb1 : BoxN w b1 [.int .i64 (S : Int)]) :
    Calls Tryz.prog 46 #[qv, .pointer (some ⟨b0, 0, none⟩), .pointer (some ⟨b1, 0, none⟩)] w (Ret fun r w' => r = .int .i64 (optW p S q) ∧ Chg No w w') := by
  have g0 := hb0.c 0 _ rfl
  have g1 := hb0.c 1 _ rfl
  have g3 := hb1.c 0 _ rfl
  obtain ⟨qa, qc, rfl, _⟩ := id hq
  go_enter Tryz.func46, Tryz.ntmps46
  go_wp2_with fail
  refine (leastCost_any A C _ _ p S q _ hp h hq hS hqr hql).mono ?_
  rintro e w1 ⟨_, rfl, rfl, k1⟩
  go_wp2_with fail
  go_ret
  exact ⟨_, rfl, rfl, k1⟩
set_option maxRecDepth 100000 in
set_option maxHeartbeats 2000000 in
theorem implExpectedLeast_any (A : Nat → Prop) (v cv : Value) (p : Pr) (s : Int) (qs : List (List Int)) (ws : List Int) (w : World) (hp : RPr A w v p) (hc : RCh A w cv qs ws) :
    Calls Tryz.prog 13 #[v, .int .i64 s, cv] w (Ret2 fun v0 v1 w' => v0 = .agg #[.int .i64 (eleV p s qs ws).num, .int .i64 (eleV p s qs ws).den] ∧ v1 = .bool (eleV p s qs ws).ok ∧ Chg No w w') := by
  have hv := hp
  have hcv := hc
  obtain ⟨mv, sv', rfl, hm, hsv⟩ := hp
  obtain ⟨wv, qv, rfl, hw, hq⟩ := hc
  obtain ⟨ma, mc, rfl⟩ := hm.shape
  obtain ⟨sa, sc, rfl⟩ := hsv.shape
  obtain ⟨qa, qc, rfl⟩ := hq.shape
  obtain ⟨wa, wc, rfl, _⟩ := id hw
  cases hd : drawB p s qs ws
  · have HV : Hid (eleV p s qs ws = ⟨0, 0, false⟩) := Lib.hid (by unfold eleV; rw [hd]; rfl)
    have HD := Lib.hid hd
    clear hd
    go_enter Tryz.func13, Tryz.ntmps13
    go_wp2_with fail
    refine bx4 (R := fun W => Calls _ _ _ W _) (fun W0 k0 _ b0 b1 b3 b4 => ?_)
    refine (isDrawn_any _ _ _ p s qs ws W0 (hv.keep k0) (hcv.keep k0)).mono ?_
    rintro e w1 ⟨_, rfl, rfl, k1⟩
    rw [HD.out]
    have kk := k0.keep k1
    have b4 := b4.keep k1
    have f0 := b4.fr 0
    have f1 := b4.fr 1
    have g0 := b4.c 0 _ rfl
    have g1 := b4.c 1 _ rfl
    have hsz := b4.lt
    obtain ⟨S2, hS2⟩ : ∃ S2, w.heap.size + 1 + 1 + 1 = S2 := ⟨_, rfl⟩
    rw [hS2] at b4 f0 f1 g0 g1 hsz ⊢
    have b5 := (b4.set (i := 0) (by simp) (.int .i64 0)).set (i := 1) (by simp) (.int .i64 0)
    have z0 := b5.c 0 _ rfl
    have z1 := b5.c 1 _ rfl
    have kk := (kk.setCell (p := ⟨S2, 0, none⟩) (fun h => by simp at h; omega) (.int .i64 0)).setCell (p := ⟨S2, 1, none⟩) (fun h => by simp at h; omega) (.int .i64 0)
    go_wp2_with fail
    exact bodyPost_ret (v := .tuple #[.agg #[.int .i64 0, .int .i64 0], .bool false]) (by simp [results, Tryz.results13, go_sem, z0, z1]) rfl ⟨_, _, rfl, by rw [HV.out], by rw [HV.out], kk⟩
  obtain ⟨hpp, hcc, hs0, hs1⟩ := drawB_facts hd
  obtain ⟨S, rfl⟩ : ∃ S : Nat, s = (S : Int) := ⟨s.toNat, by omega⟩
  have hS : S < p.mv.length := by omega
  have HV : Hid (eleV p (S : Int) qs ws = mkFr (meV (optW p S) qs ws qs.length) (sumW ws)) := Lib.hid (by unfold eleV; rw [hd, Int.toNat_natCast]; rfl)
  have HD := Lib.hid hd
  have HP := Lib.hid (And.intro hpp hcc)
  have HOI : Hid (∀ i, i < qs.length → 0 ≤ optW p S (qs.getD i []) ∧ optW p S (qs.getD i []) ≤ 813) := Lib.hid (fun i hi => optW_in hpp hS (ch_seq hcc hi).2 (ch_seq hcc hi).1)
  clear hd hpp hcc
  go_enter Tryz.func13, Tryz.ntmps13
  go_wp2_with fail
  refine bx4 (R := fun W => Calls _ _ _ W _) (fun W0 k0 _ b0 b1 b3 b4 => ?_)
  refine (isDrawn_any _ _ _ p (S : Int) qs ws W0 (hv.keep k0) (hcv.keep k0)).mono ?_
  rintro e w1 ⟨_, rfl, rfl, k1⟩
  rw [HD.out]
  have kk := k0.keep k1
  replace b0 := b0.keep k1
  replace b1 := b1.keep k1
  replace b3 := b3.keep k1
  replace b4 := b4.keep k1
  clear k1 k0
  have g0 := b3.c 0 _ rfl
  have g1 := b3.c 1 _ rfl
  go_wp2_with fail
  refine (mean2_any A _ qs ws w1 (hcv.keep kk) p.sv.length HP.out.2 _ _ _ (optW p S) (fun x w => cfLeast x _ _ w) HOI.out (fun i xv W hi hW hr => expectedLeast1_any A A _ _ xv p S _ _ _ W HP.out.1 ((hv.keep kk).keep hW) hr hS (ch_seq HP.out.2 hi).2 (by have := (ch_seq HP.out.2 hi).1; omega) (b0.keep hW) (b1.keep hW))).mono ?_
  rintro e w3 ⟨_, _, rfl, rfl, rfl, k3⟩
  replace kk := kk.keep k3
  replace b4 := b4.keep k3
  obtain ⟨fr, hfr⟩ : ∃ fr, mkFr (meV (optW p S) qs ws qs.length) (sumW ws) = fr := ⟨_, rfl⟩
  rw [hfr] at HV ⊢
  clear b0 b1 b3 g0 g1 k3 hfr
  have f0 := b4.fr 0
  have f1 := b4.fr 1
  have g0 := b4.c 0 _ rfl
  have g1 := b4.c 1 _ rfl
  have hsz := b4.lt
  obtain ⟨S2, hS2⟩ : ∃ S2, w.heap.size + 1 + 1 + 1 = S2 := ⟨_, rfl⟩
  rw [hS2] at b4 f0 f1 g0 g1 hsz ⊢
  have b5 := (b4.set (i := 0) (by simp) (.int .i64 fr.num)).set (i := 1) (by simp) (.int .i64 fr.den)
  have z0 := b5.c 0 _ rfl
  have z1 := b5.c 1 _ rfl
  have kk := (kk.setCell (p := ⟨S2, 0, none⟩) (fun h => by simp at h; omega) (.int .i64 fr.num)).setCell (p := ⟨S2, 1, none⟩) (fun h => by simp at h; omega) (.int .i64 fr.den)
  go_wp2_with fail
  exact bodyPost_ret (v := .tuple #[.agg #[.int .i64 fr.num, .int .i64 fr.den], .bool fr.ok]) (by simp [results, Tryz.results13, go_sem, z0, z1]) rfl ⟨_, _, rfl, by rw [HV.out], by rw [HV.out], kk⟩
end Go.Proofs.YtndhijckbponkaaGreat

/- the law's comparison of fractions -/
namespace Go.Proofs.YtndhijckbponkaaGreat
open Go.RowKit

set_option maxRecDepth 100000 in
set_option maxHeartbeats 1000000 in
theorem vAtMost_any (n1 d1 n2 d2 : Int) (w : World) (h1 : 0 ≤ n1 ∧ n1 ≤ 1000000) (h2 : 0 ≤ d1 ∧ d1 ≤ 100000) (h3 : 0 ≤ n2 ∧ n2 ≤ 1000000) (h4 : 0 ≤ d2 ∧ d2 ≤ 100000) :
    Calls Tryz.prog 18 #[.agg #[.int .i64 n1, .int .i64 d1], .agg #[.int .i64 n2, .int .i64 d2]] w (Ret fun r w' => r = .bool (decide (n1 * d2 ≤ n2 * d1)) ∧ Chg No w w') := by
  obtain ⟨x, hx⟩ : ∃ x, n1 * d2 = x := ⟨_, rfl⟩
  obtain ⟨y, hy⟩ : ∃ y, n2 * d1 = y := ⟨_, rfl⟩
  have hx9 : 0 ≤ x ∧ x ≤ 100000000000 := by
    rw [← hx]
    refine ⟨Int.mul_nonneg h1.1 h4.1, ?_⟩
    have e1 := Int.mul_le_mul_of_nonneg_left h4.2 h1.1
    omega
  have hy9 : 0 ≤ y ∧ y ≤ 100000000000 := by
    rw [← hy]
    refine ⟨Int.mul_nonneg h3.1 h2.1, ?_⟩
    have e1 := Int.mul_le_mul_of_nonneg_left h2.2 h3.1
    omega
  have hw1 : IntKind.i64.wrap (n1 * d2) = x := by rw [hx]; exact IntWalk.i64_in _ (by omega)
  have hw2 : IntKind.i64.wrap (n2 * d1) = y := by rw [hy]; exact IntWalk.i64_in _ (by omega)
  have HX := Lib.hid (And.intro hx hy)
  clear hx hy
  go_enter Tryz.func18, Tryz.ntmps18
  go_wp2_with fail
  go_ret
  exact ⟨_, rfl, by rw [HX.out.1, HX.out.2]; rfl, ((Chg.refl No w).alloc _).alloc _⟩
end Go.Proofs.YtndhijckbponkaaGreat
