import Derived.Test.YtodnkkmjjlfoiaaGreatNd
import Derived.Test.YtodnkkmjjlfoiaaGreatPkV
import Derived.Test.YtodnkkmjjlfoiaaGreatDq
/- FnTourSteps: the law -/
namespace Go.Proofs.YtodnkkmjjlfoiaaGreat
open Go.RowKit

theorem plT_len (t : To) (ss : List St3) : (plT t ss).ps.length ≤ 4 := by
  unfold plT
  cases h : tourB t
  · rw [if_neg (by simp)]; simp [zeroT]
  · rw [if_pos rfl]
    exact (tour_len (iterT_valid h (ss := ss) (playN t ss) (playN_spec t ss).2.1)).1
/-- the law under way: the Tournament now in box B11, the end in box B5, the steps -/
structure TsB (B11 B5 S0 : Nat) (w0 W : World) (u tv : To) (q1 : Option Addr) (q2 q3 : Nat) (u1 : Option Addr) (u2 u3 : Nat) (g1 : Option Addr) (g2 g3 : Nat) (f1 : Option Addr) (f2 f3 : Nat) (sv : Value) (ss : List St3) : Prop where
  b11 : Box3 W B11 (.int .i64 u.items) (.slice q1 q2 q3) (.slice u1 u2 u3)
  b5 : Box3 W B5 (.int .i64 tv.items) (.slice g1 g2 g3) (.slice f1 f2 f3)
  hN : RT (fun q => q = B11 ∨ S0 ≤ q) W (.agg #[.int .i64 u.items, .slice q1 q2 q3, .slice u1 u2 u3]) u
  hE : RT (fun q => q = B11 ∨ S0 ≤ q) W (.agg #[.int .i64 tv.items, .slice g1 g2 g3, .slice f1 f2 f3]) tv
  hR : RSS (fun q => q = B11 ∨ S0 ≤ q) W sv ss
  kk : Chg No w0 W
  far : B5 < B11 ∧ w0.heap.size ≤ B5 ∧ B11 < S0 ∧ S0 ≤ W.heap.size
section
variable {B11 B5 S0 : Nat} {w0 W W' : World} {u tv : To} {q1 : Option Addr} {q2 q3 : Nat} {u1 : Option Addr} {u2 u3 : Nat} {g1 : Option Addr} {g2 g3 : Nat} {f1 : Option Addr} {f2 f3 : Nat} {sv : Value} {ss : List St3}
theorem TsB.keep (h : TsB B11 B5 S0 w0 W u tv q1 q2 q3 u1 u2 u3 g1 g2 g3 f1 f2 f3 sv ss) (k : Chg No W W') : TsB B11 B5 S0 w0 W' u tv q1 q2 q3 u1 u2 u3 g1 g2 g3 f1 f2 f3 sv ss := by
  have hf := h.far
  have hs := k.size
  exact ⟨h.b11.keep k, h.b5.keep k, h.hN.keep k, h.hE.keep k, h.hR.keep k, h.kk.keep k, by omega⟩
theorem TsB.fresh (h : TsB B11 B5 S0 w0 W u tv q1 q2 q3 u1 u2 u3 g1 g2 g3 f1 f2 f3 sv ss) : TsB B11 B5 W.heap.size w0 W u tv q1 q2 q3 u1 u2 u3 g1 g2 g3 f1 f2 f3 sv ss := by
  have hf := h.far
  have hw : ∀ q, (q = B11 ∨ W.heap.size ≤ q) → q < W.heap.size → (q = B11 ∨ S0 ≤ q) := fun q e hl => by omega
  exact ⟨h.b11, h.b5, h.hN.weakS hw, h.hE.weakS hw, h.hR.weak hw, h.kk, by omega⟩
theorem TsB.putY (h : TsB B11 B5 S0 w0 W u tv q1 q2 q3 u1 u2 u3 g1 g2 g3 f1 f2 f3 sv ss) {Y : Nat} (hY : S0 ≤ Y) (x0 x1 x2 : Value) : TsB B11 B5 S0 w0 (((W.setCell ⟨Y, 0, none⟩ x0).setCell ⟨Y, 1, none⟩ x1).setCell ⟨Y, 2, none⟩ x2) u tv q1 q2 q3 u1 u2 u3 g1 g2 g3 f1 f2 f3 sv ss := by
  have hf := h.far
  have ch := (Chg.refl (fun q => q = Y) W).put3 (b := Y) (fun _ => rfl) x0 x1 x2
  have hs := ch.size
  have hT : ∀ k, k = Y → k = B11 ∨ S0 ≤ k := fun k e => by omega
  exact ⟨h.b11.step ch (by omega), h.b5.step ch (by omega), h.hN.step ch hT, h.hE.step ch hT, h.hR.step ch hT, h.kk.step ch (fun q e hl => by omega), by omega⟩
theorem TsB.putN (h : TsB B11 B5 S0 w0 W u tv q1 q2 q3 u1 u2 u3 g1 g2 g3 f1 f2 f3 sv ss) {x : To} {n1 : Option Addr} {n2 n3 : Nat} {s1 : Option Addr} {s2 s3 Y : Nat} (hx : RT (fun q => q = B11 ∨ q = Y) W (.agg #[.int .i64 x.items, .slice n1 n2 n3, .slice s1 s2 s3]) x) :
    TsB B11 B5 W.heap.size w0 (((W.setCell ⟨B11, 0, none⟩ (.int .i64 x.items)).setCell ⟨B11, 1, none⟩ (.slice n1 n2 n3)).setCell ⟨B11, 2, none⟩ (.slice s1 s2 s3)) x tv n1 n2 n3 s1 s2 s3 g1 g2 g3 f1 f2 f3 sv ss := by
  have hb := h.fresh
  have hf := h.far
  have ch := (Chg.refl (fun q => q = B11) W).put3 (b := B11) (fun _ => rfl) (.int .i64 x.items) (.slice n1 n2 n3) (.slice s1 s2 s3)
  have hs := ch.size
  have hT : ∀ k, k = B11 → k = B11 ∨ W.heap.size ≤ k := fun k e => .inl e
  exact ⟨((h.b11.set0 _).set1 _).set2 _, h.b5.step ch (by omega), (hx.weakS (fun q e hl => by omega)).step ch hT, hb.hE.step ch hT, hb.hR.step ch hT, h.kk.step ch (fun q e hl => by omega), by omega⟩
end
set_option maxRecDepth 100000 in
set_option maxHeartbeats 16000000 in
theorem law_FnTourSteps (v : Value) (N : Nat) (w : World) (h : Code w v N) :
    Calls Tryz.prog 4 #[v] w fun e w' => e = .returned (.bool true) ∧ Chg No w w' := by
  obtain ⟨a, cp, rfl⟩ := h.shape
  go_enter Tryz.func4, Tryz.ntmps4
  go_wp2_with fail
  refine (vBig_any _ _ _ h).mono ?_
  rintro e w0 ⟨rfl, rfl⟩
  by_cases hbig : (65536 : Int) < (N : Int)
  · go_wp2_with fail
    go_ret
    exact ⟨rfl, Chg.refl No _⟩
  · obtain ⟨l, hll, hl⟩ := h.list
    have HLN := Lib.hid hll
    have HCL := Lib.hid hl
    go_wp2_with fail
    refine (DrawPlaySteps_any _ _ _ h (by omega)).mono ?_
    rintro e w1 ⟨v0, v1, t, ss, rfl, hT, hR, kk⟩
    clear h hl hll
    obtain ⟨pv, rv, hv0, hps, hrq⟩ := id hT
    obtain ⟨p1, p3, rfl, _⟩ := id hps
    obtain ⟨r1, r3, rfl, _⟩ := id hrq
    subst hv0
    obtain ⟨sa, sc, rfl, hsc, hscm, hsn, _⟩ := id hR
    clear hps hrq
    have b3 := Box3.new w1 (.int .i64 t.items) (.slice p1 t.ps.length p3) (.slice r1 t.reqs.length r3) 31
    have hw01 := kk.size
    have ka := (Chg.refl No w1).alloc (.cells #[.int .i64 t.items, .slice p1 t.ps.length p3, .slice r1 t.reqs.length r3] 31)
    replace kk := kk.keep ka
    replace hT := hT.keep ka
    replace hR := hR.keep ka
    clear ka
    obtain ⟨c0, c1, c2, _⟩ := id b3
    go_wp2_with fail
    clear c0 c1 c2
    obtain ⟨B3, hB3⟩ : ∃ B3, w1.heap.size = B3 := ⟨_, rfl⟩
    rw [hB3] at b3 hw01 ⊢
    clear hB3
    generalize w1.alloc (.cells #[.int .i64 t.items, .slice p1 t.ps.length p3, .slice r1 t.reqs.length r3] 31) = W2 at b3 kk hT hR ⊢
    obtain ⟨ok, hok⟩ : ∃ ok, tourB t = ok := ⟨_, rfl⟩
    obtain ⟨tv, htv⟩ : ∃ tv, plT t ss = tv := ⟨_, rfl⟩
    obtain ⟨nv, hnv⟩ : ∃ nv, plN t ss = nv := ⟨_, rfl⟩
    refine (implPlay_any _ _ t ss W2 hT hR ok hok nv hnv tv htv).mono ?_
    rintro e w3 ⟨v5, rfl, hTA, k3⟩
    have htvn : tv.ps.length ≤ 1048576 := by rw [← htv]; have := plT_len t ss; omega
    have hE := hTA.rt htvn (A := No) (fun _ _ e => e)
    obtain ⟨g1, g2, g3, f1, f2, f3, rfl⟩ := hTA.u.shape
    clear hTA
    have hs3 := k3.size
    have hB3l := b3.lt
    have b5 := Box3.new w3 (.int .i64 tv.items) (.slice g1 g2 g3) (.slice f1 f2 f3) 31
    have ka := (Chg.refl No w3).alloc (.cells #[.int .i64 tv.items, .slice g1 g2 g3, .slice f1 f2 f3] 31)
    have kb := k3.trans ka
    replace kk := kk.keep kb
    replace hT := hT.keep kb
    replace hR := hR.keep kb
    replace b3 := b3.keep kb
    replace hE := hE.keep ka
    clear ka kb k3
    obtain ⟨c0, c1, c2, _⟩ := id b3
    go_wp2_with fail
    clear c0 c1 c2
    obtain ⟨B5, hB5⟩ : ∃ B5, w3.heap.size = B5 := ⟨_, rfl⟩
    rw [hB5] at b5 hs3 ⊢
    clear hB5
    generalize w3.alloc (.cells #[.int .i64 tv.items, .slice g1 g2 g3, .slice f1 f2 f3] 31) = W4 at b3 b5 kk hT hR hE ⊢
    refine (specPlay_any _ _ t ss W4 hT hR ok hok nv hnv tv htv).mono ?_
    rintro e w5 ⟨v8, rfl, hTA, k5⟩
    have hE8 := hTA.rt htvn (A := No) (fun _ _ e => e)
    obtain ⟨x1, x2, x3, y1, y2, y3, rfl⟩ := hTA.u.shape
    clear hTA
    have b8 := Box3.new w5 (.int .i64 tv.items) (.slice x1 x2 x3) (.slice y1 y2 y3) 31
    have ka := (Chg.refl No w5).alloc (.cells #[.int .i64 tv.items, .slice x1 x2 x3, .slice y1 y2 y3] 31)
    have kb := k5.trans ka
    replace kk := kk.keep kb
    replace hT := hT.keep kb
    replace hR := hR.keep kb
    replace b3 := b3.keep kb
    replace b5 := b5.keep kb
    replace hE := hE.keep kb
    replace hE8 := hE8.keep ka
    clear ka kb k5
    obtain ⟨c0, c1, c2, _⟩ := id b5
    obtain ⟨d0, d1, d2, _⟩ := id b8
    go_wp2_with fail
    clear c0 c1 c2 d0 d1 d2 b8
    generalize w5.alloc (.cells #[.int .i64 tv.items, .slice x1 x2 x3, .slice y1 y2 y3] 31) = W6 at b3 b5 kk hT hR hE hE8 ⊢
    refine (vTour_same _ _ tv W6 hE hE8).mono ?_
    rintro e w7 ⟨_, rfl, rfl, k7⟩
    replace kk := kk.keep k7
    replace hT := hT.keep k7
    replace hR := hR.keep k7
    replace b3 := b3.keep k7
    replace b5 := b5.keep k7
    replace hE := hE.keep k7
    clear k7 hE8
    cases ok
    · go_wp2_with fail
      go_ret
      exact ⟨rfl, kk⟩
    · have htN : tv = iterT t ss (playN t ss) := by rw [← htv, plT, hok]; rfl
      have hnN : nv = (playN t ss : Int) := by rw [← hnv, plN, hok]; rfl
      have HOK0 := Lib.hid hok
      have HP := Lib.hid (playN_spec t ss)
      obtain ⟨P, hP⟩ : ∃ P, playN t ss = P := ⟨_, rfl⟩
      rw [hP] at htN hnN HP
      subst hnN
      have HTN := Lib.hid htN
      clear htv hnv hok htN hP
      have hs7 := b5.lt
      have b11 := Box3.new w7 (.int .i64 t.items) (.slice p1 t.ps.length p3) (.slice r1 t.reqs.length r3) 31
      have ka := (Chg.refl No w7).alloc (.cells #[.int .i64 t.items, .slice p1 t.ps.length p3, .slice r1 t.reqs.length r3] 31)
      obtain ⟨B11, hB11⟩ : ∃ B11, w7.heap.size = B11 := ⟨_, rfl⟩
      rw [hB11] at b11 hs7
      have hw : ∀ q, (q = B11 ∨ B11 + 1 ≤ q) → q < w7.heap.size → No q := fun q e hl => by omega
      have hsz : B11 + 1 ≤ (w7.alloc (.cells #[.int .i64 t.items, .slice p1 t.ps.length p3, .slice r1 t.reqs.length r3] 31)).heap.size := by rw [World.size_alloc]; omega
      have h : TsB B11 B5 (B11 + 1) w0 (w7.alloc (.cells #[.int .i64 t.items, .slice p1 t.ps.length p3, .slice r1 t.reqs.length r3] 31)) t tv p1 t.ps.length p3 r1 t.reqs.length r3 g1 g2 g3 f1 f2 f3 (.slice sa ss.length sc) ss :=
        ⟨b11, b5.keep ka, (hT.weakS hw).keep ka, (hE.weakS hw).keep ka, (hR.weak hw).keep ka, kk.keep ka, by omega⟩
      obtain ⟨c0, c1, c2, _⟩ := id b3
      clear ka hw b11 b5 hT hE hR kk hsz
      go_wp2_with fail
      clear c0 c1 c2 b3
      generalize w7.alloc (.cells #[.int .i64 t.items, .slice p1 t.ps.length p3, .slice r1 t.reqs.length r3] 31) = W8 at h ⊢
      clear hB11
      go_loopw [12] (fun i wr => ∃ (j : Nat) (S0 : Nat) (q1 : Option Addr) (q2 q3 : Nat) (u1 : Option Addr) (u2 u3 : Nat), j ≤ P ∧ i = .int .i64 (j : Int) ∧ TsB B11 B5 S0 w0 wr (iterT t ss j) tv q1 q2 q3 u1 u2 u3 g1 g2 g3 f1 f2 f3 (.slice sa ss.length sc) ss) (fun i _ => P - (intOf i).toNat)
      case atStart => exact ⟨0, _, _, _, _, _, _, _, Nat.zero_le _, rfl, h⟩
      case round =>
        clear h
        obtain ⟨j, S0', q1, q2, q3, u1, u2, u3, hj, rfl, h⟩ := hrel
        have hPl := HP.out.1
        have hv := iterT_valid (t := t) HOK0.out (ss := ss) j (fun i hi => HP.out.2.1 i (by omega))
        have hj0 : (0 : Int) ≤ (j : Int) := Int.natCast_nonneg _
        by_cases hlt : j < P
        · have hjs : j < ss.length := by omega
          have hoj := HP.out.2.1 j hlt
          obtain ⟨_, _, he, _, _, _, hcl⟩ := id h.hR
          simp only [Value.slice.injEq] at he
          obtain ⟨rfl, _, rfl⟩ := he
          obtain ⟨b, off, rfl, _, hb, hcell⟩ := hcl (by intro e; simp [e] at hjs)
          have h3 := hcell j hjs
          have hit : iterT t ss (j + 1) = stepT (iterT t ss j) (ss.getD j dSt).k (ss.getD j dSt).a (ss.getD j dSt).b := rfl
          obtain ⟨y, hy⟩ : ∃ y, ss.getD j dSt = y := ⟨_, rfl⟩
          rw [hy] at h3 hoj hit
          obtain ⟨u, hu⟩ : ∃ u, iterT t ss j = u := ⟨_, rfl⟩
          rw [hu] at h hoj hit hv
          have HOK : Hid (okS u y.k y.a y.b = true) := Lib.hid (by unfold okS; rw [hv]; exact hoj)
          have HIT : Hid (iterT t ss (j + 1) = stS u y.k y.a y.b) := Lib.hid (by rw [hit]; unfold stS; rw [HOK.out]; rfl)
          clear hcl hcell hit hy hu hoj hv
          have hj1 : (j : Int) < (P : Int) := by omega
          have hj2 : (j : Int) < (ss.length : Int) := by omega
          have hwj : IntKind.i64.wrap ((j : Int) + 1) = (j : Int) + 1 := IntWalk.i64_in _ (by omega)
          obtain ⟨WR, hWR⟩ : ∃ WR, wr = WR := ⟨_, rfl⟩
          rw [hWR] at h h3 hb ⊢
          clear hWR
          go_wp2_with fail
          refine wp_region_K (S := fun WQ => WQ.cell? ⟨B11, 0, none⟩ = some (.int .i64 u.items) ∧ WQ.cell? ⟨B11, 1, none⟩ = some (.slice q1 q2 q3) ∧ WQ.cell? ⟨B11, 2, none⟩ = some (.slice u1 u2 u3) ∧ WQ.cell? ⟨b, off + j * 3, none⟩ = some (.int .i64 y.k) ∧ WQ.cell? ⟨b, off + j * 3 + 1, none⟩ = some (.int .i64 y.a) ∧ WQ.cell? ⟨b, off + j * 3 + 2, none⟩ = some (.int .i64 y.b)) (k := 10) (by kernel_rfl) ?_
          have kd := (Chg.refl No WR).drew
          replace h := (h.keep kd).fresh
          replace h3 := h3.step kd hb (fun e => e)
          have hbq : b < WR.drew.heap.size := Nat.lt_of_lt_of_le hb kd.size
          clear kd
          generalize hWQ : WR.drew = WQ at h h3 hbq ⊢
          clear hWQ
          obtain ⟨S0, hS0⟩ : ∃ S0, WQ.heap.size = S0 := ⟨_, rfl⟩
          rw [hS0] at h
          clear hS0
          have hS : WQ.cell? ⟨B11, 0, none⟩ = some (.int .i64 u.items) ∧ WQ.cell? ⟨B11, 1, none⟩ = some (.slice q1 q2 q3) ∧ WQ.cell? ⟨B11, 2, none⟩ = some (.slice u1 u2 u3) ∧ WQ.cell? ⟨b, off + j * 3, none⟩ = some (.int .i64 y.k) ∧ WQ.cell? ⟨b, off + j * 3 + 1, none⟩ = some (.int .i64 y.a) ∧ WQ.cell? ⟨b, off + j * 3 + 2, none⟩ = some (.int .i64 y.b) := ⟨h.b11.c0, h.b11.c1, h.b11.c2, h3.c0, h3.c1, h3.c2⟩
          refine wpAnyK_takeT 0 (.agg #[.int .i64 u.items, .slice q1 q2 q3, .slice u1 u2 u3]) rfl (by kernel_rfl) (fun _ _ _ h => h) hS rfl (by intro w hSw; go_simp) ?_
          simp only [List.getElem_toArray, List.getElem_cons_zero, Act.put, List.setIfInBounds_toArray, List.set_cons_zero, List.set_cons_succ]
          refine wpAnyK_take0 1 (.slice (some ⟨b, off, none⟩) ss.length sc) rfl (by kernel_rfl) (fun _ _ _ h => h) hS rfl (by intro w; go_simp) ?_
          simp only [List.getElem_toArray, List.getElem_cons_succ, List.getElem_cons_zero, Act.put, List.setIfInBounds_toArray, List.set_cons_zero, List.set_cons_succ]
          refine wpAnyK_take0 2 (.int .i64 (j : Int)) rfl (by kernel_rfl) (fun _ _ _ h => h) hS rfl (by intro w; go_simp) ?_
          simp only [List.getElem_toArray, List.getElem_cons_succ, List.getElem_cons_zero, Act.put, List.setIfInBounds_toArray, List.set_cons_zero, List.set_cons_succ]
          refine wpAnyK_take 3 (.pointer (some ⟨b, off + j * 3, none⟩)) rfl (by kernel_rfl) (fun _ _ _ h => h) hS rfl (by rintro w _; go_simp) ?_
          simp only [List.getElem_toArray, List.getElem_cons_succ, List.getElem_cons_zero, Act.put, List.setIfInBounds_toArray, List.set_cons_zero, List.set_cons_succ]
          refine wpAnyK_takeT 4 (.agg #[.int .i64 y.k, .int .i64 y.a, .int .i64 y.b]) rfl (by kernel_rfl) (fun _ _ _ h => h) hS rfl (by intro w hSw; go_simp) ?_
          simp only [List.getElem_toArray, List.getElem_cons_succ, List.getElem_cons_zero, Act.put, List.setIfInBounds_toArray, List.set_cons_zero, List.set_cons_succ]
          refine wpAnyK_2 5 9 (by kernel_rfl) (wpOpK' rfl rfl ?_) (wpOpK' rfl rfl ?_)
          · skip
            intro K0 hK0
            have hst := ret2_ret (implStep_any _ u y.k y.a y.b WQ h.hN.no true HOK.out _ rfl)
            unfold stV at hst
            refine ocall (f := 20) (args := #[.agg #[.int .i64 u.items, .slice q1 q2 q3, .slice u1 u2 u3], .agg #[.int .i64 y.k, .int .i64 y.a, .int .i64 y.b]]) (by go_simp) hst (fun v4 W4 h4 => hK0.out _ _ (by obtain ⟨_, _, _, _, _, kx⟩ := h4; have g := h.keep kx; exact ⟨(g.b11).c0, (g.b11).c1, (g.b11).c2, (h3.step kx hbq (fun e => e)).c0, (h3.step kx hbq (fun e => e)).c1, (h3.step kx hbq (fun e => e)).c2⟩) ?_)
            obtain ⟨vw, _, rfl, rfl, hTA, kx⟩ := h4
            clear hst hK0 K0 hS
            simp only [List.getElem_toArray, List.getElem_cons_succ, List.getElem_cons_zero, Act.put, List.setIfInBounds_toArray, List.set_cons_zero, List.set_cons_succ]
            obtain ⟨base, hbase⟩ : ∃ base, WQ.heap.size = base := ⟨_, rfl⟩
            have hBb : B11 < base := by have := h.b11.lt; omega
            rw [hbase] at hTA
            obtain ⟨x, hxx⟩ : ∃ x, stS u y.k y.a y.b = x := ⟨_, rfl⟩
            rw [hxx] at hTA
            have hx4 : x.ps.length ≤ 1048576 := by rw [← hxx]; have := stS_len u y.k y.a y.b; omega
            have HXX := Lib.hid hxx
            obtain ⟨m1, m2, m3, s1, s2, s3, rfl, _⟩ := hTA.put3i (b := B11) hBb
            have hX := (hTA.rt (A := fun q => q = B11) hx4 (fun q hq e => by omega))
            replace h := h.keep kx
            replace h3 := h3.step kx hbq (fun e => e); replace hbq := Nat.lt_of_lt_of_le hbq kx.size
            clear kx hbase hTA hxx
            generalize W4 = WQ at *
            have hS : WQ.cell? ⟨B11, 0, none⟩ = some (.int .i64 u.items) ∧ WQ.cell? ⟨B11, 1, none⟩ = some (.slice q1 q2 q3) ∧ WQ.cell? ⟨B11, 2, none⟩ = some (.slice u1 u2 u3) ∧ WQ.cell? ⟨b, off + j * 3, none⟩ = some (.int .i64 y.k) ∧ WQ.cell? ⟨b, off + j * 3 + 1, none⟩ = some (.int .i64 y.a) ∧ WQ.cell? ⟨b, off + j * 3 + 2, none⟩ = some (.int .i64 y.b) := ⟨h.b11.c0, h.b11.c1, h.b11.c2, h3.c0, h3.c1, h3.c2⟩
            refine wpAnyK_take0 6 (.tuple #[.agg #[.int .i64 x.items, .slice m1 m2 m3, .slice s1 s2 s3], .bool true]) rfl (by kernel_rfl) (fun _ _ _ h => h) hS rfl (by intro w; go_simp) ?_
            simp only [List.getElem_toArray, List.getElem_cons_succ, List.getElem_cons_zero, Act.put, List.setIfInBounds_toArray, List.set_cons_zero, List.set_cons_succ]
            refine wpAnyK_take0 7 (.agg #[.int .i64 x.items, .slice m1 m2 m3, .slice s1 s2 s3]) rfl (by kernel_rfl) (fun _ _ _ h => h) hS rfl (by intro w; go_simp) ?_
            simp only [List.getElem_toArray, List.getElem_cons_succ, List.getElem_cons_zero, Act.put, List.setIfInBounds_toArray, List.set_cons_zero, List.set_cons_succ]
            refine wpAnyK_take0 8 (.bool true) rfl (by kernel_rfl) (fun _ _ _ h => h) hS rfl (by intro w; go_simp) ?_
            simp only [List.getElem_toArray, List.getElem_cons_succ, List.getElem_cons_zero, Act.put, List.setIfInBounds_toArray, List.set_cons_zero, List.set_cons_succ]
            refine wpAnyK_1 9 (by kernel_rfl) (wpOpK' rfl rfl ?_)
            intro K0 hK0
            unfold Oper.wp execOp
            go_simp
            have kx := (Chg.refl No WQ).alloc (.cells #[.int .i64 0, .slice none 0 0, .slice none 0 0] 31)
            have bY := Box3.new WQ (.int .i64 0) (.slice none 0 0) (.slice none 0 0) 31
            obtain ⟨Y, hY⟩ : ∃ Y, WQ.heap.size = Y := ⟨_, rfl⟩
            have hYS : S0 ≤ Y := by have := h.far; omega
            replace hX := (hX.weakS (B := fun q => q = B11 ∨ q = Y) (fun q e hl => by omega)).keep kx
            replace h := h.keep kx
            replace h3 := h3.step kx hbq (fun e => e); replace hbq := Nat.lt_of_lt_of_le hbq kx.size
            refine hK0.out _ _ ⟨h.b11.c0, h.b11.c1, h.b11.c2, h3.c0, h3.c1, h3.c2⟩ ?_
            clear hK0 K0 hS
            simp only [List.setIfInBounds_toArray]
            rw [hY] at bY ⊢
            have hYl := bY.lt
            clear kx hY
            generalize WQ.alloc (.cells #[.int .i64 0, .slice none 0 0, .slice none 0 0] 31) = WQ at *
            have hS : WQ.cell? ⟨B11, 0, none⟩ = some (.int .i64 u.items) ∧ WQ.cell? ⟨B11, 1, none⟩ = some (.slice q1 q2 q3) ∧ WQ.cell? ⟨B11, 2, none⟩ = some (.slice u1 u2 u3) ∧ WQ.cell? ⟨b, off + j * 3, none⟩ = some (.int .i64 y.k) ∧ WQ.cell? ⟨b, off + j * 3 + 1, none⟩ = some (.int .i64 y.a) ∧ WQ.cell? ⟨b, off + j * 3 + 2, none⟩ = some (.int .i64 y.b) := ⟨h.b11.c0, h.b11.c1, h.b11.c2, h3.c0, h3.c1, h3.c2⟩
            refine wpAnyK_tail 10 rfl (by kernel_rfl) ?_
            clear hS
            simp only [List.drop_succ_cons, List.drop_zero]
            obtain ⟨e0, e1, e2, ef⟩ := id bY
            have ef0 := ef 0
            have ef1 := ef 1
            have ef2 := ef 2
            clear ef
            have hYB : ¬ Y = B11 := by have := h.far; omega
            have bYN := ((bY.set0 (.int .i64 x.items)).set1 (.slice m1 m2 m3)).set2 (.slice s1 s2 s3)
            have ch := (Chg.refl (fun q => q = Y) WQ).put3 (b := Y) (fun _ => rfl) (.int .i64 x.items) (.slice m1 m2 m3) (.slice s1 s2 s3)
            replace h := h.putY hYS (.int .i64 x.items) (.slice m1 m2 m3) (.slice s1 s2 s3)
            replace hX := hX.step ch (fun q e => .inr e)
            refine wpList_plain rfl (fun K1 hK1 => ?_)
            unfold Oper.wp execOp
            go_simp
            refine hK1 _ _ ?_
            clear hK1 K1 e0 e1 e2 ef0 ef1 ef2 ch bY
            generalize ((WQ.setCell ⟨Y, 0, none⟩ (.int .i64 x.items)).setCell ⟨Y, 1, none⟩ (.slice m1 m2 m3)).setCell ⟨Y, 2, none⟩ (.slice s1 s2 s3) = WN at h hX bYN ⊢
            obtain ⟨c0, c1, c2, cf⟩ := id h.b11
            have cf0 := cf 0
            have cf1 := cf 1
            have cf2 := cf 2
            clear cf
            obtain ⟨e0, e1, e2, _⟩ := id bYN
            have HE := Lib.hid (h.putN hX)
            clear h hX bYN h3 hbq
            go_wp2_with fail
            refine ⟨⟨j + 1, _, m1, m2, m3, s1, s2, s3, hlt, by go_num, by rw [HIT.out, HXX.out]; exact HE.out⟩, ?_⟩
            simp [intOf]
            try omega
          · skip
            intro K0 hK0
            unfold Oper.wp execOp
            go_simp
            have kx := (Chg.refl No WQ).alloc (.cells #[.int .i64 0, .slice none 0 0, .slice none 0 0] 31)
            have bY := Box3.new WQ (.int .i64 0) (.slice none 0 0) (.slice none 0 0) 31
            obtain ⟨Y, hY⟩ : ∃ Y, WQ.heap.size = Y := ⟨_, rfl⟩
            have hYS : S0 ≤ Y := by have := h.far; omega
            skip
            replace h := h.keep kx
            replace h3 := h3.step kx hbq (fun e => e); replace hbq := Nat.lt_of_lt_of_le hbq kx.size
            refine hK0.out _ _ ⟨h.b11.c0, h.b11.c1, h.b11.c2, h3.c0, h3.c1, h3.c2⟩ ?_
            clear hK0 K0 hS
            simp only [List.setIfInBounds_toArray]
            rw [hY] at bY ⊢
            have hYl := bY.lt
            clear kx hY
            generalize WQ.alloc (.cells #[.int .i64 0, .slice none 0 0, .slice none 0 0] 31) = WQ at *
            have hS : WQ.cell? ⟨B11, 0, none⟩ = some (.int .i64 u.items) ∧ WQ.cell? ⟨B11, 1, none⟩ = some (.slice q1 q2 q3) ∧ WQ.cell? ⟨B11, 2, none⟩ = some (.slice u1 u2 u3) ∧ WQ.cell? ⟨b, off + j * 3, none⟩ = some (.int .i64 y.k) ∧ WQ.cell? ⟨b, off + j * 3 + 1, none⟩ = some (.int .i64 y.a) ∧ WQ.cell? ⟨b, off + j * 3 + 2, none⟩ = some (.int .i64 y.b) := ⟨h.b11.c0, h.b11.c1, h.b11.c2, h3.c0, h3.c1, h3.c2⟩
            refine wpAnyK_1 5 (by kernel_rfl) (wpOpK' rfl rfl ?_)
            intro K0 hK0
            have hst := ret2_ret (implStep_any _ u y.k y.a y.b WQ h.hN.no true HOK.out _ rfl)
            unfold stV at hst
            refine ocall (f := 20) (args := #[.agg #[.int .i64 u.items, .slice q1 q2 q3, .slice u1 u2 u3], .agg #[.int .i64 y.k, .int .i64 y.a, .int .i64 y.b]]) (by go_simp) hst (fun v4 W4 h4 => hK0.out _ _ (by obtain ⟨_, _, _, _, _, kx⟩ := h4; have g := h.keep kx; exact ⟨(g.b11).c0, (g.b11).c1, (g.b11).c2, (h3.step kx hbq (fun e => e)).c0, (h3.step kx hbq (fun e => e)).c1, (h3.step kx hbq (fun e => e)).c2⟩) ?_)
            obtain ⟨vw, _, rfl, rfl, hTA, kx⟩ := h4
            clear hst hK0 K0 hS
            simp only [List.getElem_toArray, List.getElem_cons_succ, List.getElem_cons_zero, Act.put, List.setIfInBounds_toArray, List.set_cons_zero, List.set_cons_succ]
            obtain ⟨base, hbase⟩ : ∃ base, WQ.heap.size = base := ⟨_, rfl⟩
            have hBb : B11 < base := by have := h.b11.lt; omega
            rw [hbase] at hTA
            obtain ⟨x, hxx⟩ : ∃ x, stS u y.k y.a y.b = x := ⟨_, rfl⟩
            rw [hxx] at hTA
            have hx4 : x.ps.length ≤ 1048576 := by rw [← hxx]; have := stS_len u y.k y.a y.b; omega
            have HXX := Lib.hid hxx
            obtain ⟨m1, m2, m3, s1, s2, s3, rfl, _⟩ := hTA.put3i (b := B11) hBb
            have hX := (hTA.rt (A := fun q => q = B11 ∨ q = Y) hx4 (fun q hq e => by omega))
            replace h := h.keep kx
            replace bY := bY.keep kx; replace h3 := h3.step kx hbq (fun e => e); replace hbq := Nat.lt_of_lt_of_le hbq kx.size
            clear kx hbase hTA hxx
            generalize W4 = WQ at *
            have hS : WQ.cell? ⟨B11, 0, none⟩ = some (.int .i64 u.items) ∧ WQ.cell? ⟨B11, 1, none⟩ = some (.slice q1 q2 q3) ∧ WQ.cell? ⟨B11, 2, none⟩ = some (.slice u1 u2 u3) ∧ WQ.cell? ⟨b, off + j * 3, none⟩ = some (.int .i64 y.k) ∧ WQ.cell? ⟨b, off + j * 3 + 1, none⟩ = some (.int .i64 y.a) ∧ WQ.cell? ⟨b, off + j * 3 + 2, none⟩ = some (.int .i64 y.b) := ⟨h.b11.c0, h.b11.c1, h.b11.c2, h3.c0, h3.c1, h3.c2⟩
            refine wpAnyK_take0 6 (.tuple #[.agg #[.int .i64 x.items, .slice m1 m2 m3, .slice s1 s2 s3], .bool true]) rfl (by kernel_rfl) (fun _ _ _ h => h) hS rfl (by intro w; go_simp) ?_
            simp only [List.getElem_toArray, List.getElem_cons_succ, List.getElem_cons_zero, Act.put, List.setIfInBounds_toArray, List.set_cons_zero, List.set_cons_succ]
            refine wpAnyK_take0 7 (.agg #[.int .i64 x.items, .slice m1 m2 m3, .slice s1 s2 s3]) rfl (by kernel_rfl) (fun _ _ _ h => h) hS rfl (by intro w; go_simp) ?_
            simp only [List.getElem_toArray, List.getElem_cons_succ, List.getElem_cons_zero, Act.put, List.setIfInBounds_toArray, List.set_cons_zero, List.set_cons_succ]
            refine wpAnyK_take0 8 (.bool true) rfl (by kernel_rfl) (fun _ _ _ h => h) hS rfl (by intro w; go_simp) ?_
            simp only [List.getElem_toArray, List.getElem_cons_succ, List.getElem_cons_zero, Act.put, List.setIfInBounds_toArray, List.set_cons_zero, List.set_cons_succ]
            refine wpAnyK_tail 10 rfl (by kernel_rfl) ?_
            clear hS
            simp only [List.drop_succ_cons, List.drop_zero]
            obtain ⟨e0, e1, e2, ef⟩ := id bY
            have ef0 := ef 0
            have ef1 := ef 1
            have ef2 := ef 2
            clear ef
            have hYB : ¬ Y = B11 := by have := h.far; omega
            have bYN := ((bY.set0 (.int .i64 x.items)).set1 (.slice m1 m2 m3)).set2 (.slice s1 s2 s3)
            have ch := (Chg.refl (fun q => q = Y) WQ).put3 (b := Y) (fun _ => rfl) (.int .i64 x.items) (.slice m1 m2 m3) (.slice s1 s2 s3)
            replace h := h.putY hYS (.int .i64 x.items) (.slice m1 m2 m3) (.slice s1 s2 s3)
            replace hX := hX.step ch (fun q e => .inr e)
            refine wpList_plain rfl (fun K1 hK1 => ?_)
            unfold Oper.wp execOp
            go_simp
            refine hK1 _ _ ?_
            clear hK1 K1 e0 e1 e2 ef0 ef1 ef2 ch bY
            generalize ((WQ.setCell ⟨Y, 0, none⟩ (.int .i64 x.items)).setCell ⟨Y, 1, none⟩ (.slice m1 m2 m3)).setCell ⟨Y, 2, none⟩ (.slice s1 s2 s3) = WN at h hX bYN ⊢
            obtain ⟨c0, c1, c2, cf⟩ := id h.b11
            have cf0 := cf 0
            have cf1 := cf 1
            have cf2 := cf 2
            clear cf
            obtain ⟨e0, e1, e2, _⟩ := id bYN
            have HE := Lib.hid (h.putN hX)
            clear h hX bYN h3 hbq
            go_wp2_with fail
            refine ⟨⟨j + 1, _, m1, m2, m3, s1, s2, s3, hlt, by go_num, by rw [HIT.out, HXX.out]; exact HE.out⟩, ?_⟩
            simp [intOf]
            try omega
        · have hje : j = P := by omega
          subst hje
          obtain ⟨u, hu⟩ : ∃ u, iterT t ss j = u := ⟨_, rfl⟩
          have hut : u = tv := by rw [← hu]; exact HTN.out.symm
          rw [hu] at h hv
          have HV := Lib.hid hv
          have hul := tour_len hv
          clear hlt HTN hv
          subst hut
          have HV8 : Hid (∀ W, Chg No w0 W → Calls Tryz.prog 21 #[.slice a N cp, .int .i64 8] W fun e w'' => e = .returned (.int .i64 (atC l 8)) ∧ W = w'') := Lib.hid (fun W hW => vAt_any _ l 8 W (HCL.out.keep hW) (by rw [HLN.out]; omega) (by omega))
          have ha8 := atC_in HCL.out 8
          obtain ⟨x8, hx8⟩ : ∃ x8, atC l 8 = x8 := ⟨_, rfl⟩
          rw [hx8] at HV8 ha8
          clear hx8
          have hi0 : ¬ u.items = 0 := by omega
          have ht := Int.tmod_eq_emod_of_nonneg (a := x8) (b := u.items) (by omega)
          have hm0 := Int.emod_nonneg x8 hi0
          have hm1 := Int.emod_lt_of_pos x8 (show 0 < u.items by omega)
          obtain ⟨xr, hxr⟩ : ∃ xr, x8 % u.items = xr := ⟨_, rfl⟩
          rw [hxr] at ht hm0 hm1
          have hwr : IntKind.i64.wrap xr = xr := IntWalk.i64_in _ (by omega)
          clear hxr
          obtain ⟨ok2, hok2⟩ : ∃ ok2, okS u 2 xr 0 = ok2 := ⟨_, rfl⟩
          have HOK2 := Lib.hid hok2
          clear hok2
          by_cases hlen : j < ss.length
          · have hoj := HP.out.2.2 hlen
            obtain ⟨_, _, he, _, _, _, hcl⟩ := id h.hR
            simp only [Value.slice.injEq] at he
            obtain ⟨rfl, _, rfl⟩ := he
            obtain ⟨b, off, rfl, _, hb, hcell⟩ := hcl (by intro e; simp [e] at hlen)
            have h3 := hcell j hlen
            obtain ⟨y, hy⟩ : ∃ y, ss.getD j dSt = y := ⟨_, rfl⟩
            rw [hy] at h3 hoj
            rw [hu] at hoj
            have HOK : Hid (okS u y.k y.a y.b = false) := Lib.hid (by unfold okS; rw [HV.out]; exact hoj)
            clear hcl hcell hy hu hoj
            have hj2 : (j : Int) < (ss.length : Int) := by omega
            obtain ⟨WR, hWR⟩ : ∃ WR, wr = WR := ⟨_, rfl⟩
            rw [hWR] at h h3 hb ⊢
            clear hWR
            go_wp2_with fail
            refine wp_region_K (S := fun WQ => WQ.cell? ⟨B11, 0, none⟩ = some (.int .i64 u.items) ∧ WQ.cell? ⟨B11, 1, none⟩ = some (.slice q1 q2 q3) ∧ WQ.cell? ⟨B11, 2, none⟩ = some (.slice u1 u2 u3) ∧ WQ.cell? ⟨b, off + j * 3, none⟩ = some (.int .i64 y.k) ∧ WQ.cell? ⟨b, off + j * 3 + 1, none⟩ = some (.int .i64 y.a) ∧ WQ.cell? ⟨b, off + j * 3 + 2, none⟩ = some (.int .i64 y.b)) (k := 10) (by kernel_rfl) ?_
            have kd := (Chg.refl No WR).drew
            replace h := (h.keep kd).fresh
            replace h3 := h3.step kd hb (fun e => e)
            have hbq : b < WR.drew.heap.size := Nat.lt_of_lt_of_le hb kd.size
            clear kd
            generalize hWQ : WR.drew = WQ at h h3 hbq ⊢
            clear hWQ
            obtain ⟨S0, hS0⟩ : ∃ S0, WQ.heap.size = S0 := ⟨_, rfl⟩
            rw [hS0] at h
            clear hS0
            have hS : WQ.cell? ⟨B11, 0, none⟩ = some (.int .i64 u.items) ∧ WQ.cell? ⟨B11, 1, none⟩ = some (.slice q1 q2 q3) ∧ WQ.cell? ⟨B11, 2, none⟩ = some (.slice u1 u2 u3) ∧ WQ.cell? ⟨b, off + j * 3, none⟩ = some (.int .i64 y.k) ∧ WQ.cell? ⟨b, off + j * 3 + 1, none⟩ = some (.int .i64 y.a) ∧ WQ.cell? ⟨b, off + j * 3 + 2, none⟩ = some (.int .i64 y.b) := ⟨h.b11.c0, h.b11.c1, h.b11.c2, h3.c0, h3.c1, h3.c2⟩
            refine wpAnyK_takeT 0 (.agg #[.int .i64 u.items, .slice q1 q2 q3, .slice u1 u2 u3]) rfl (by kernel_rfl) (fun _ _ _ h => h) hS rfl (by intro w hSw; go_simp) ?_
            simp only [List.getElem_toArray, List.getElem_cons_zero, Act.put, List.setIfInBounds_toArray, List.set_cons_zero, List.set_cons_succ]
            refine wpAnyK_take0 1 (.slice (some ⟨b, off, none⟩) ss.length sc) rfl (by kernel_rfl) (fun _ _ _ h => h) hS rfl (by intro w; go_simp) ?_
            simp only [List.getElem_toArray, List.getElem_cons_succ, List.getElem_cons_zero, Act.put, List.setIfInBounds_toArray, List.set_cons_zero, List.set_cons_succ]
            refine wpAnyK_take0 2 (.int .i64 (j : Int)) rfl (by kernel_rfl) (fun _ _ _ h => h) hS rfl (by intro w; go_simp) ?_
            simp only [List.getElem_toArray, List.getElem_cons_succ, List.getElem_cons_zero, Act.put, List.setIfInBounds_toArray, List.set_cons_zero, List.set_cons_succ]
            refine wpAnyK_take 3 (.pointer (some ⟨b, off + j * 3, none⟩)) rfl (by kernel_rfl) (fun _ _ _ h => h) hS rfl (by rintro w _; go_simp) ?_
            simp only [List.getElem_toArray, List.getElem_cons_succ, List.getElem_cons_zero, Act.put, List.setIfInBounds_toArray, List.set_cons_zero, List.set_cons_succ]
            refine wpAnyK_takeT 4 (.agg #[.int .i64 y.k, .int .i64 y.a, .int .i64 y.b]) rfl (by kernel_rfl) (fun _ _ _ h => h) hS rfl (by intro w hSw; go_simp) ?_
            simp only [List.getElem_toArray, List.getElem_cons_succ, List.getElem_cons_zero, Act.put, List.setIfInBounds_toArray, List.set_cons_zero, List.set_cons_succ]
            refine wpAnyK_2 5 9 (by kernel_rfl) (wpOpK' rfl rfl ?_) (wpOpK' rfl rfl ?_)
            · skip
              intro K0 hK0
              have hst := ret2_ret (implStep_any _ u y.k y.a y.b WQ h.hN.no false HOK.out _ rfl)
              unfold stV at hst
              refine ocall (f := 20) (args := #[.agg #[.int .i64 u.items, .slice q1 q2 q3, .slice u1 u2 u3], .agg #[.int .i64 y.k, .int .i64 y.a, .int .i64 y.b]]) (by go_simp) hst (fun v4 W4 h4 => hK0.out _ _ (by obtain ⟨_, _, _, _, _, kx⟩ := h4; have g := h.keep kx; exact ⟨(g.b11).c0, (g.b11).c1, (g.b11).c2, (h3.step kx hbq (fun e => e)).c0, (h3.step kx hbq (fun e => e)).c1, (h3.step kx hbq (fun e => e)).c2⟩) ?_)
              obtain ⟨vw, _, rfl, rfl, hTA, kx⟩ := h4
              clear hst hK0 K0 hS
              simp only [List.getElem_toArray, List.getElem_cons_succ, List.getElem_cons_zero, Act.put, List.setIfInBounds_toArray, List.set_cons_zero, List.set_cons_succ]
              obtain ⟨base, hbase⟩ : ∃ base, WQ.heap.size = base := ⟨_, rfl⟩
              have hBb : B11 < base := by have := h.b11.lt; omega
              rw [hbase] at hTA
              obtain ⟨x, hxx⟩ : ∃ x, stS u y.k y.a y.b = x := ⟨_, rfl⟩
              rw [hxx] at hTA
              have hx4 : x.ps.length ≤ 1048576 := by rw [← hxx]; have := stS_len u y.k y.a y.b; omega
              have HXX := Lib.hid hxx
              obtain ⟨m1, m2, m3, s1, s2, s3, rfl, _⟩ := hTA.put3i (b := B11) hBb
              have hX := (hTA.rt (A := fun q => q = B11) hx4 (fun q hq e => by omega))
              replace h := h.keep kx
              replace h3 := h3.step kx hbq (fun e => e); replace hbq := Nat.lt_of_lt_of_le hbq kx.size
              clear kx hbase hTA hxx
              generalize W4 = WQ at *
              have hS : WQ.cell? ⟨B11, 0, none⟩ = some (.int .i64 u.items) ∧ WQ.cell? ⟨B11, 1, none⟩ = some (.slice q1 q2 q3) ∧ WQ.cell? ⟨B11, 2, none⟩ = some (.slice u1 u2 u3) ∧ WQ.cell? ⟨b, off + j * 3, none⟩ = some (.int .i64 y.k) ∧ WQ.cell? ⟨b, off + j * 3 + 1, none⟩ = some (.int .i64 y.a) ∧ WQ.cell? ⟨b, off + j * 3 + 2, none⟩ = some (.int .i64 y.b) := ⟨h.b11.c0, h.b11.c1, h.b11.c2, h3.c0, h3.c1, h3.c2⟩
              refine wpAnyK_take0 6 (.tuple #[.agg #[.int .i64 x.items, .slice m1 m2 m3, .slice s1 s2 s3], .bool false]) rfl (by kernel_rfl) (fun _ _ _ h => h) hS rfl (by intro w; go_simp) ?_
              simp only [List.getElem_toArray, List.getElem_cons_succ, List.getElem_cons_zero, Act.put, List.setIfInBounds_toArray, List.set_cons_zero, List.set_cons_succ]
              refine wpAnyK_take0 7 (.agg #[.int .i64 x.items, .slice m1 m2 m3, .slice s1 s2 s3]) rfl (by kernel_rfl) (fun _ _ _ h => h) hS rfl (by intro w; go_simp) ?_
              simp only [List.getElem_toArray, List.getElem_cons_succ, List.getElem_cons_zero, Act.put, List.setIfInBounds_toArray, List.set_cons_zero, List.set_cons_succ]
              refine wpAnyK_take0 8 (.bool false) rfl (by kernel_rfl) (fun _ _ _ h => h) hS rfl (by intro w; go_simp) ?_
              simp only [List.getElem_toArray, List.getElem_cons_succ, List.getElem_cons_zero, Act.put, List.setIfInBounds_toArray, List.set_cons_zero, List.set_cons_succ]
              refine wpAnyK_1 9 (by kernel_rfl) (wpOpK' rfl rfl ?_)
              intro K0 hK0
              unfold Oper.wp execOp
              go_simp
              have kx := (Chg.refl No WQ).alloc (.cells #[.int .i64 0, .slice none 0 0, .slice none 0 0] 31)
              have bY := Box3.new WQ (.int .i64 0) (.slice none 0 0) (.slice none 0 0) 31
              obtain ⟨Y, hY⟩ : ∃ Y, WQ.heap.size = Y := ⟨_, rfl⟩
              have hYS : S0 ≤ Y := by have := h.far; omega
              replace hX := (hX.weakS (B := fun q => q = B11 ∨ q = Y) (fun q e hl => by omega)).keep kx
              replace h := h.keep kx
              replace h3 := h3.step kx hbq (fun e => e); replace hbq := Nat.lt_of_lt_of_le hbq kx.size
              refine hK0.out _ _ ⟨h.b11.c0, h.b11.c1, h.b11.c2, h3.c0, h3.c1, h3.c2⟩ ?_
              clear hK0 K0 hS
              simp only [List.setIfInBounds_toArray]
              rw [hY] at bY ⊢
              have hYl := bY.lt
              clear kx hY
              generalize WQ.alloc (.cells #[.int .i64 0, .slice none 0 0, .slice none 0 0] 31) = WQ at *
              have hS : WQ.cell? ⟨B11, 0, none⟩ = some (.int .i64 u.items) ∧ WQ.cell? ⟨B11, 1, none⟩ = some (.slice q1 q2 q3) ∧ WQ.cell? ⟨B11, 2, none⟩ = some (.slice u1 u2 u3) ∧ WQ.cell? ⟨b, off + j * 3, none⟩ = some (.int .i64 y.k) ∧ WQ.cell? ⟨b, off + j * 3 + 1, none⟩ = some (.int .i64 y.a) ∧ WQ.cell? ⟨b, off + j * 3 + 2, none⟩ = some (.int .i64 y.b) := ⟨h.b11.c0, h.b11.c1, h.b11.c2, h3.c0, h3.c1, h3.c2⟩
              refine wpAnyK_tail 10 rfl (by kernel_rfl) ?_
              clear hS
              simp only [List.drop_succ_cons, List.drop_zero]
              obtain ⟨e0, e1, e2, ef⟩ := id bY
              have ef0 := ef 0
              have ef1 := ef 1
              have ef2 := ef 2
              clear ef
              have hYB : ¬ Y = B11 := by have := h.far; omega
              have bYN := ((bY.set0 (.int .i64 x.items)).set1 (.slice m1 m2 m3)).set2 (.slice s1 s2 s3)
              have ch := (Chg.refl (fun q => q = Y) WQ).put3 (b := Y) (fun _ => rfl) (.int .i64 x.items) (.slice m1 m2 m3) (.slice s1 s2 s3)
              replace h := h.putY hYS (.int .i64 x.items) (.slice m1 m2 m3) (.slice s1 s2 s3)
              replace hX := hX.step ch (fun q e => .inr e)
              refine wpList_plain rfl (fun K1 hK1 => ?_)
              unfold Oper.wp execOp
              go_simp
              refine hK1 _ _ ?_
              clear hK1 K1 e0 e1 e2 ef0 ef1 ef2 ch bY
              generalize ((WQ.setCell ⟨Y, 0, none⟩ (.int .i64 x.items)).setCell ⟨Y, 1, none⟩ (.slice m1 m2 m3)).setCell ⟨Y, 2, none⟩ (.slice s1 s2 s3) = WN at h hX bYN ⊢
              clear hX bYN h3 hbq HXX hYS hYl hYB hx4 hBb HOK
              try clear S0
              go_wp2_with fail
              have HOK := HOK2
              refine wp_region_K (S := fun WQ => WQ.cell? ⟨B11, 0, none⟩ = some (.int .i64 u.items) ∧ WQ.cell? ⟨B11, 1, none⟩ = some (.slice q1 q2 q3) ∧ WQ.cell? ⟨B11, 2, none⟩ = some (.slice u1 u2 u3)) (k := 12) (by kernel_rfl) ?_
              have kd := (Chg.refl No WN).drew
              replace h := (h.keep kd).fresh
              clear kd
              generalize hWQ : WN.drew = WQ at h ⊢
              clear hWQ
              obtain ⟨S0, hS0⟩ : ∃ S0, WQ.heap.size = S0 := ⟨_, rfl⟩
              rw [hS0] at h
              clear hS0
              have hS : WQ.cell? ⟨B11, 0, none⟩ = some (.int .i64 u.items) ∧ WQ.cell? ⟨B11, 1, none⟩ = some (.slice q1 q2 q3) ∧ WQ.cell? ⟨B11, 2, none⟩ = some (.slice u1 u2 u3) := ⟨h.b11.c0, h.b11.c1, h.b11.c2⟩
              refine wpAnyK_takeT 0 (.agg #[.int .i64 u.items, .slice q1 q2 q3, .slice u1 u2 u3]) rfl (by kernel_rfl) (fun _ _ _ h => h) hS rfl (by intro w hSw; go_simp) ?_
              simp only [List.getElem_toArray, List.getElem_cons_zero, Act.put, List.setIfInBounds_toArray, List.set_cons_zero, List.set_cons_succ]
              refine wpAnyK_take0 1 (.slice a N cp) rfl (by kernel_rfl) (fun _ _ _ h => h) hS rfl (by intro w; go_simp) ?_
              simp only [List.getElem_toArray, List.getElem_cons_succ, List.getElem_cons_zero, Act.put, List.setIfInBounds_toArray, List.set_cons_zero, List.set_cons_succ]
              refine wpAnyK_take0 3 (.pointer (some ⟨B11, 0, none⟩)) rfl (by kernel_rfl) (fun _ _ _ h => h) hS rfl (by intro w; go_simp) ?_
              simp only [List.getElem_toArray, List.getElem_cons_succ, List.getElem_cons_zero, Act.put, List.setIfInBounds_toArray, List.set_cons_zero, List.set_cons_succ]
              refine wpAnyK_takeT 4 (.int .i64 u.items) rfl (by kernel_rfl) (fun _ _ _ h => h) hS rfl (by intro w hSw; go_simp) ?_
              simp only [List.getElem_toArray, List.getElem_cons_succ, List.getElem_cons_zero, Act.put, List.setIfInBounds_toArray, List.set_cons_zero, List.set_cons_succ]
              refine wpAnyK_2 2 11 (by kernel_rfl) (wpOpK' rfl rfl ?_) (wpOpK' rfl rfl ?_)
              · skip
                intro K0 hK0
                refine ocallE (f := 21) (args := #[.slice a N cp, .int .i64 8]) (φ := fun v W' => v = .int .i64 x8 ∧ W' = WQ) (by go_simp) ((HV8.out WQ h.kk).mono (fun e w'' q => ⟨_, q.1, rfl, q.2.symm⟩)) (fun v2 W2 h2 => hK0.out _ _ (by obtain ⟨_, e2⟩ := h2; rw [e2]; exact ⟨h.b11.c0, h.b11.c1, h.b11.c2⟩) ?_)
                obtain ⟨rfl, e2⟩ := h2
                rw [e2]
                clear hK0 K0 e2
                simp only [List.getElem_toArray, List.getElem_cons_succ, List.getElem_cons_zero, Act.put, List.setIfInBounds_toArray, List.set_cons_zero, List.set_cons_succ]
                refine wpAnyK_take 5 (.int .i64 xr) rfl (by kernel_rfl) (fun _ _ _ h => h) hS rfl (by rintro w _; go_simp) ?_
                simp only [List.getElem_toArray, List.getElem_cons_succ, List.getElem_cons_zero, Act.put, List.setIfInBounds_toArray, List.set_cons_zero, List.set_cons_succ]
                refine wpAnyK_take0 6 (.agg #[.int .i64 2, .int .i64 xr, .int .i64 0]) rfl (by kernel_rfl) (fun _ _ _ h => h) hS rfl (by intro w; go_simp) ?_
                simp only [List.getElem_toArray, List.getElem_cons_succ, List.getElem_cons_zero, Act.put, List.setIfInBounds_toArray, List.set_cons_zero, List.set_cons_succ]
                refine wpAnyK_2 7 11 (by kernel_rfl) (wpOpK' rfl rfl ?_) (wpOpK' rfl rfl ?_)
                · skip
                  intro K0 hK0
                  have hst := ret2_ret (implStep_any _ u 2 xr 0 WQ h.hN.no ok2 HOK.out _ rfl)
                  unfold stV at hst
                  refine ocall (f := 20) (args := #[.agg #[.int .i64 u.items, .slice q1 q2 q3, .slice u1 u2 u3], .agg #[.int .i64 2, .int .i64 xr, .int .i64 0]]) (by go_simp) hst (fun v4 W4 h4 => hK0.out _ _ (by obtain ⟨_, _, _, _, _, kx⟩ := h4; have g := h.keep kx; exact ⟨(g.b11).c0, (g.b11).c1, (g.b11).c2⟩) ?_)
                  obtain ⟨vw, _, rfl, rfl, hTA, kx⟩ := h4
                  clear hst hK0 K0 hS
                  simp only [List.getElem_toArray, List.getElem_cons_succ, List.getElem_cons_zero, Act.put, List.setIfInBounds_toArray, List.set_cons_zero, List.set_cons_succ]
                  obtain ⟨base, hbase⟩ : ∃ base, WQ.heap.size = base := ⟨_, rfl⟩
                  have hBb : B11 < base := by have := h.b11.lt; omega
                  rw [hbase] at hTA
                  obtain ⟨x, hxx⟩ : ∃ x, stS u 2 xr 0 = x := ⟨_, rfl⟩
                  rw [hxx] at hTA
                  have hx4 : x.ps.length ≤ 1048576 := by rw [← hxx]; have := stS_len u 2 xr 0; omega
                  have HXX := Lib.hid hxx
                  obtain ⟨m1, m2, m3, s1, s2, s3, rfl, _⟩ := hTA.put3i (b := B11) hBb
                  have hX := (hTA.rt (A := fun q => q = B11) hx4 (fun q hq e => by omega))
                  replace h := h.keep kx
                  skip
                  clear kx hbase hTA hxx
                  generalize W4 = WQ at *
                  have hS : WQ.cell? ⟨B11, 0, none⟩ = some (.int .i64 u.items) ∧ WQ.cell? ⟨B11, 1, none⟩ = some (.slice q1 q2 q3) ∧ WQ.cell? ⟨B11, 2, none⟩ = some (.slice u1 u2 u3) := ⟨h.b11.c0, h.b11.c1, h.b11.c2⟩
                  refine wpAnyK_take0 8 (.tuple #[.agg #[.int .i64 x.items, .slice m1 m2 m3, .slice s1 s2 s3], .bool ok2]) rfl (by kernel_rfl) (fun _ _ _ h => h) hS rfl (by intro w; go_simp) ?_
                  simp only [List.getElem_toArray, List.getElem_cons_succ, List.getElem_cons_zero, Act.put, List.setIfInBounds_toArray, List.set_cons_zero, List.set_cons_succ]
                  refine wpAnyK_take0 9 (.agg #[.int .i64 x.items, .slice m1 m2 m3, .slice s1 s2 s3]) rfl (by kernel_rfl) (fun _ _ _ h => h) hS rfl (by intro w; go_simp) ?_
                  simp only [List.getElem_toArray, List.getElem_cons_succ, List.getElem_cons_zero, Act.put, List.setIfInBounds_toArray, List.set_cons_zero, List.set_cons_succ]
                  refine wpAnyK_take0 10 (.bool ok2) rfl (by kernel_rfl) (fun _ _ _ h => h) hS rfl (by intro w; go_simp) ?_
                  simp only [List.getElem_toArray, List.getElem_cons_succ, List.getElem_cons_zero, Act.put, List.setIfInBounds_toArray, List.set_cons_zero, List.set_cons_succ]
                  refine wpAnyK_1 11 (by kernel_rfl) (wpOpK' rfl rfl ?_)
                  intro K0 hK0
                  unfold Oper.wp execOp
                  go_simp
                  have kx := (Chg.refl No WQ).alloc (.cells #[.int .i64 0, .slice none 0 0, .slice none 0 0] 31)
                  have bY := Box3.new WQ (.int .i64 0) (.slice none 0 0) (.slice none 0 0) 31
                  obtain ⟨Y, hY⟩ : ∃ Y, WQ.heap.size = Y := ⟨_, rfl⟩
                  have hYS : S0 ≤ Y := by have := h.far; omega
                  replace hX := (hX.weakS (B := fun q => q = B11 ∨ q = Y) (fun q e hl => by omega)).keep kx
                  replace h := h.keep kx
                  skip
                  refine hK0.out _ _ ⟨h.b11.c0, h.b11.c1, h.b11.c2⟩ ?_
                  clear hK0 K0 hS
                  simp only [List.setIfInBounds_toArray]
                  rw [hY] at bY ⊢
                  have hYl := bY.lt
                  clear kx hY
                  generalize WQ.alloc (.cells #[.int .i64 0, .slice none 0 0, .slice none 0 0] 31) = WQ at *
                  have hS : WQ.cell? ⟨B11, 0, none⟩ = some (.int .i64 u.items) ∧ WQ.cell? ⟨B11, 1, none⟩ = some (.slice q1 q2 q3) ∧ WQ.cell? ⟨B11, 2, none⟩ = some (.slice u1 u2 u3) := ⟨h.b11.c0, h.b11.c1, h.b11.c2⟩
                  refine wpAnyK_tail 12 rfl (by kernel_rfl) ?_
                  clear hS
                  simp only [List.drop_succ_cons, List.drop_zero]
                  obtain ⟨e0, e1, e2, ef⟩ := id bY
                  have ef0 := ef 0
                  have ef1 := ef 1
                  have ef2 := ef 2
                  clear ef
                  have hYB : ¬ Y = B11 := by have := h.far; omega
                  have bYN := ((bY.set0 (.int .i64 x.items)).set1 (.slice m1 m2 m3)).set2 (.slice s1 s2 s3)
                  have ch := (Chg.refl (fun q => q = Y) WQ).put3 (b := Y) (fun _ => rfl) (.int .i64 x.items) (.slice m1 m2 m3) (.slice s1 s2 s3)
                  replace h := h.putY hYS (.int .i64 x.items) (.slice m1 m2 m3) (.slice s1 s2 s3)
                  replace hX := hX.step ch (fun q e => .inr e)
                  refine wpList_plain rfl (fun K1 hK1 => ?_)
                  unfold Oper.wp execOp
                  go_simp
                  refine hK1 _ _ ?_
                  clear hK1 K1 e0 e1 e2 ef0 ef1 ef2 ch bY
                  generalize ((WQ.setCell ⟨Y, 0, none⟩ (.int .i64 x.items)).setCell ⟨Y, 1, none⟩ (.slice m1 m2 m3)).setCell ⟨Y, 2, none⟩ (.slice s1 s2 s3) = WN at h hX bYN ⊢
                  have HXX2 := HXX.out
                  cases ok2
                  · obtain ⟨c0, c1, c2, _⟩ := id h.b11
                    obtain ⟨d0, d1, d2, _⟩ := id h.b5
                    go_wp2_with fail
                    refine (vTour_same _ _ u WN h.hN.no h.hE.no).mono ?_
                    rintro e w9 ⟨_, rfl, rfl, k9⟩
                    have HK := Lib.hid (h.kk.keep k9)
                    clear c0 c1 c2 d0 d1 d2 h k9
                    go_wp2_with fail
                    go_ret
                    exact ⟨rfl, HK.out⟩
                  · have ho : okStep u 2 xr 0 = true := by
                      have := HOK2.out
                      unfold okS at this
                      rw [HV.out] at this
                      simpa using this
                    have hxe : x = stepT u 2 xr 0 := by rw [← HXX2]; unfold stS; rw [HOK2.out]; rfl
                    obtain ⟨hvx, hox, hbk⟩ := req_back HV.out xr ho
                    rw [← hxe] at hvx hox hbk
                    have hok4 : okS x 4 0 0 = true := by unfold okS; rw [hvx, hox]; rfl
                    have hst4 : stS x 4 0 0 = u := by unfold stS; rw [hok4]; exact hbk
                    have H4 := Lib.hid (And.intro hok4 hst4)
                    obtain ⟨c0, c1, c2, _⟩ := id bYN
                    clear ho hxe hvx hox hbk hok4 hst4 HXX2
                    go_wp2_with fail
                    have q4 := implStep_any _ x 4 0 0 WN hX.no true H4.out.1 u H4.out.2
                    unfold stV at q4
                    refine q4.mono ?_
                    rintro e w9 ⟨v9, _, rfl, rfl, hTA, k9⟩
                    clear q4 c0 c1 c2 bYN hX
                    replace h := h.keep k9
                    have hT9 := hTA.rt (by omega) (A := No) (fun _ _ e => e)
                    obtain ⟨n1, n2, n3, z1, z2, z3, rfl⟩ := hTA.u.shape
                    have b19 := Box3.new w9 (.int .i64 u.items) (.slice n1 n2 n3) (.slice z1 z2 z3) 31
                    have ka := (Chg.refl No w9).alloc (.cells #[.int .i64 u.items, .slice n1 n2 n3, .slice z1 z2 z3] 31)
                    replace h := h.keep ka
                    replace hT9 := hT9.keep ka
                    clear hTA k9 ka
                    obtain ⟨c0, c1, c2, _⟩ := id b19
                    obtain ⟨d0, d1, d2, _⟩ := id h.b11
                    go_wp2_with fail
                    refine (vTour_same _ _ u _ hT9 h.hN.no).mono ?_
                    rintro e w10 ⟨_, rfl, rfl, k10⟩
                    replace h := h.keep k10
                    clear c0 c1 c2 d0 d1 d2 b19 hT9 k10
                    obtain ⟨c0, c1, c2, _⟩ := id h.b11
                    obtain ⟨d0, d1, d2, _⟩ := id h.b5
                    go_wp2_with fail
                    refine (vTour_same _ _ u w10 h.hN.no h.hE.no).mono ?_
                    rintro e w11 ⟨_, rfl, rfl, k11⟩
                    have HK := Lib.hid (h.kk.keep k11)
                    clear c0 c1 c2 d0 d1 d2 h k11
                    go_wp2_with fail
                    go_ret
                    exact ⟨rfl, HK.out⟩
                · skip
                  intro K0 hK0
                  unfold Oper.wp execOp
                  go_simp
                  have kx := (Chg.refl No WQ).alloc (.cells #[.int .i64 0, .slice none 0 0, .slice none 0 0] 31)
                  have bY := Box3.new WQ (.int .i64 0) (.slice none 0 0) (.slice none 0 0) 31
                  obtain ⟨Y, hY⟩ : ∃ Y, WQ.heap.size = Y := ⟨_, rfl⟩
                  have hYS : S0 ≤ Y := by have := h.far; omega
                  skip
                  replace h := h.keep kx
                  skip
                  refine hK0.out _ _ ⟨h.b11.c0, h.b11.c1, h.b11.c2⟩ ?_
                  clear hK0 K0 hS
                  simp only [List.setIfInBounds_toArray]
                  rw [hY] at bY ⊢
                  have hYl := bY.lt
                  clear kx hY
                  generalize WQ.alloc (.cells #[.int .i64 0, .slice none 0 0, .slice none 0 0] 31) = WQ at *
                  have hS : WQ.cell? ⟨B11, 0, none⟩ = some (.int .i64 u.items) ∧ WQ.cell? ⟨B11, 1, none⟩ = some (.slice q1 q2 q3) ∧ WQ.cell? ⟨B11, 2, none⟩ = some (.slice u1 u2 u3) := ⟨h.b11.c0, h.b11.c1, h.b11.c2⟩
                  refine wpAnyK_1 7 (by kernel_rfl) (wpOpK' rfl rfl ?_)
                  intro K0 hK0
                  have hst := ret2_ret (implStep_any _ u 2 xr 0 WQ h.hN.no ok2 HOK.out _ rfl)
                  unfold stV at hst
                  refine ocall (f := 20) (args := #[.agg #[.int .i64 u.items, .slice q1 q2 q3, .slice u1 u2 u3], .agg #[.int .i64 2, .int .i64 xr, .int .i64 0]]) (by go_simp) hst (fun v4 W4 h4 => hK0.out _ _ (by obtain ⟨_, _, _, _, _, kx⟩ := h4; have g := h.keep kx; exact ⟨(g.b11).c0, (g.b11).c1, (g.b11).c2⟩) ?_)
                  obtain ⟨vw, _, rfl, rfl, hTA, kx⟩ := h4
                  clear hst hK0 K0 hS
                  simp only [List.getElem_toArray, List.getElem_cons_succ, List.getElem_cons_zero, Act.put, List.setIfInBounds_toArray, List.set_cons_zero, List.set_cons_succ]
                  obtain ⟨base, hbase⟩ : ∃ base, WQ.heap.size = base := ⟨_, rfl⟩
                  have hBb : B11 < base := by have := h.b11.lt; omega
                  rw [hbase] at hTA
                  obtain ⟨x, hxx⟩ : ∃ x, stS u 2 xr 0 = x := ⟨_, rfl⟩
                  rw [hxx] at hTA
                  have hx4 : x.ps.length ≤ 1048576 := by rw [← hxx]; have := stS_len u 2 xr 0; omega
                  have HXX := Lib.hid hxx
                  obtain ⟨m1, m2, m3, s1, s2, s3, rfl, _⟩ := hTA.put3i (b := B11) hBb
                  have hX := (hTA.rt (A := fun q => q = B11 ∨ q = Y) hx4 (fun q hq e => by omega))
                  replace h := h.keep kx
                  replace bY := bY.keep kx
                  clear kx hbase hTA hxx
                  generalize W4 = WQ at *
                  have hS : WQ.cell? ⟨B11, 0, none⟩ = some (.int .i64 u.items) ∧ WQ.cell? ⟨B11, 1, none⟩ = some (.slice q1 q2 q3) ∧ WQ.cell? ⟨B11, 2, none⟩ = some (.slice u1 u2 u3) := ⟨h.b11.c0, h.b11.c1, h.b11.c2⟩
                  refine wpAnyK_take0 8 (.tuple #[.agg #[.int .i64 x.items, .slice m1 m2 m3, .slice s1 s2 s3], .bool ok2]) rfl (by kernel_rfl) (fun _ _ _ h => h) hS rfl (by intro w; go_simp) ?_
                  simp only [List.getElem_toArray, List.getElem_cons_succ, List.getElem_cons_zero, Act.put, List.setIfInBounds_toArray, List.set_cons_zero, List.set_cons_succ]
                  refine wpAnyK_take0 9 (.agg #[.int .i64 x.items, .slice m1 m2 m3, .slice s1 s2 s3]) rfl (by kernel_rfl) (fun _ _ _ h => h) hS rfl (by intro w; go_simp) ?_
                  simp only [List.getElem_toArray, List.getElem_cons_succ, List.getElem_cons_zero, Act.put, List.setIfInBounds_toArray, List.set_cons_zero, List.set_cons_succ]
                  refine wpAnyK_take0 10 (.bool ok2) rfl (by kernel_rfl) (fun _ _ _ h => h) hS rfl (by intro w; go_simp) ?_
                  simp only [List.getElem_toArray, List.getElem_cons_succ, List.getElem_cons_zero, Act.put, List.setIfInBounds_toArray, List.set_cons_zero, List.set_cons_succ]
                  refine wpAnyK_tail 12 rfl (by kernel_rfl) ?_
                  clear hS
                  simp only [List.drop_succ_cons, List.drop_zero]
                  obtain ⟨e0, e1, e2, ef⟩ := id bY
                  have ef0 := ef 0
                  have ef1 := ef 1
                  have ef2 := ef 2
                  clear ef
                  have hYB : ¬ Y = B11 := by have := h.far; omega
                  have bYN := ((bY.set0 (.int .i64 x.items)).set1 (.slice m1 m2 m3)).set2 (.slice s1 s2 s3)
                  have ch := (Chg.refl (fun q => q = Y) WQ).put3 (b := Y) (fun _ => rfl) (.int .i64 x.items) (.slice m1 m2 m3) (.slice s1 s2 s3)
                  replace h := h.putY hYS (.int .i64 x.items) (.slice m1 m2 m3) (.slice s1 s2 s3)
                  replace hX := hX.step ch (fun q e => .inr e)
                  refine wpList_plain rfl (fun K1 hK1 => ?_)
                  unfold Oper.wp execOp
                  go_simp
                  refine hK1 _ _ ?_
                  clear hK1 K1 e0 e1 e2 ef0 ef1 ef2 ch bY
                  generalize ((WQ.setCell ⟨Y, 0, none⟩ (.int .i64 x.items)).setCell ⟨Y, 1, none⟩ (.slice m1 m2 m3)).setCell ⟨Y, 2, none⟩ (.slice s1 s2 s3) = WN at h hX bYN ⊢
                  have HXX2 := HXX.out
                  cases ok2
                  · obtain ⟨c0, c1, c2, _⟩ := id h.b11
                    obtain ⟨d0, d1, d2, _⟩ := id h.b5
                    go_wp2_with fail
                    refine (vTour_same _ _ u WN h.hN.no h.hE.no).mono ?_
                    rintro e w9 ⟨_, rfl, rfl, k9⟩
                    have HK := Lib.hid (h.kk.keep k9)
                    clear c0 c1 c2 d0 d1 d2 h k9
                    go_wp2_with fail
                    go_ret
                    exact ⟨rfl, HK.out⟩
                  · have ho : okStep u 2 xr 0 = true := by
                      have := HOK2.out
                      unfold okS at this
                      rw [HV.out] at this
                      simpa using this
                    have hxe : x = stepT u 2 xr 0 := by rw [← HXX2]; unfold stS; rw [HOK2.out]; rfl
                    obtain ⟨hvx, hox, hbk⟩ := req_back HV.out xr ho
                    rw [← hxe] at hvx hox hbk
                    have hok4 : okS x 4 0 0 = true := by unfold okS; rw [hvx, hox]; rfl
                    have hst4 : stS x 4 0 0 = u := by unfold stS; rw [hok4]; exact hbk
                    have H4 := Lib.hid (And.intro hok4 hst4)
                    obtain ⟨c0, c1, c2, _⟩ := id bYN
                    clear ho hxe hvx hox hbk hok4 hst4 HXX2
                    go_wp2_with fail
                    have q4 := implStep_any _ x 4 0 0 WN hX.no true H4.out.1 u H4.out.2
                    unfold stV at q4
                    refine q4.mono ?_
                    rintro e w9 ⟨v9, _, rfl, rfl, hTA, k9⟩
                    clear q4 c0 c1 c2 bYN hX
                    replace h := h.keep k9
                    have hT9 := hTA.rt (by omega) (A := No) (fun _ _ e => e)
                    obtain ⟨n1, n2, n3, z1, z2, z3, rfl⟩ := hTA.u.shape
                    have b19 := Box3.new w9 (.int .i64 u.items) (.slice n1 n2 n3) (.slice z1 z2 z3) 31
                    have ka := (Chg.refl No w9).alloc (.cells #[.int .i64 u.items, .slice n1 n2 n3, .slice z1 z2 z3] 31)
                    replace h := h.keep ka
                    replace hT9 := hT9.keep ka
                    clear hTA k9 ka
                    obtain ⟨c0, c1, c2, _⟩ := id b19
                    obtain ⟨d0, d1, d2, _⟩ := id h.b11
                    go_wp2_with fail
                    refine (vTour_same _ _ u _ hT9 h.hN.no).mono ?_
                    rintro e w10 ⟨_, rfl, rfl, k10⟩
                    replace h := h.keep k10
                    clear c0 c1 c2 d0 d1 d2 b19 hT9 k10
                    obtain ⟨c0, c1, c2, _⟩ := id h.b11
                    obtain ⟨d0, d1, d2, _⟩ := id h.b5
                    go_wp2_with fail
                    refine (vTour_same _ _ u w10 h.hN.no h.hE.no).mono ?_
                    rintro e w11 ⟨_, rfl, rfl, k11⟩
                    have HK := Lib.hid (h.kk.keep k11)
                    clear c0 c1 c2 d0 d1 d2 h k11
                    go_wp2_with fail
                    go_ret
                    exact ⟨rfl, HK.out⟩
              · skip
                intro K0 hK0
                unfold Oper.wp execOp
                go_simp
                have kx := (Chg.refl No WQ).alloc (.cells #[.int .i64 0, .slice none 0 0, .slice none 0 0] 31)
                have bY := Box3.new WQ (.int .i64 0) (.slice none 0 0) (.slice none 0 0) 31
                obtain ⟨Y, hY⟩ : ∃ Y, WQ.heap.size = Y := ⟨_, rfl⟩
                have hYS : S0 ≤ Y := by have := h.far; omega
                skip
                replace h := h.keep kx
                skip
                refine hK0.out _ _ ⟨h.b11.c0, h.b11.c1, h.b11.c2⟩ ?_
                clear hK0 K0 hS
                simp only [List.setIfInBounds_toArray]
                rw [hY] at bY ⊢
                have hYl := bY.lt
                clear kx hY
                generalize WQ.alloc (.cells #[.int .i64 0, .slice none 0 0, .slice none 0 0] 31) = WQ at *
                have hS : WQ.cell? ⟨B11, 0, none⟩ = some (.int .i64 u.items) ∧ WQ.cell? ⟨B11, 1, none⟩ = some (.slice q1 q2 q3) ∧ WQ.cell? ⟨B11, 2, none⟩ = some (.slice u1 u2 u3) := ⟨h.b11.c0, h.b11.c1, h.b11.c2⟩
                refine wpAnyK_1 2 (by kernel_rfl) (wpOpK' rfl rfl ?_)
                intro K0 hK0
                refine ocallE (f := 21) (args := #[.slice a N cp, .int .i64 8]) (φ := fun v W' => v = .int .i64 x8 ∧ W' = WQ) (by go_simp) ((HV8.out WQ h.kk).mono (fun e w'' q => ⟨_, q.1, rfl, q.2.symm⟩)) (fun v2 W2 h2 => hK0.out _ _ (by obtain ⟨_, e2⟩ := h2; rw [e2]; exact ⟨h.b11.c0, h.b11.c1, h.b11.c2⟩) ?_)
                obtain ⟨rfl, e2⟩ := h2
                rw [e2]
                clear hK0 K0 e2
                simp only [List.getElem_toArray, List.getElem_cons_succ, List.getElem_cons_zero, Act.put, List.setIfInBounds_toArray, List.set_cons_zero, List.set_cons_succ]
                refine wpAnyK_take 5 (.int .i64 xr) rfl (by kernel_rfl) (fun _ _ _ h => h) hS rfl (by rintro w _; go_simp) ?_
                simp only [List.getElem_toArray, List.getElem_cons_succ, List.getElem_cons_zero, Act.put, List.setIfInBounds_toArray, List.set_cons_zero, List.set_cons_succ]
                refine wpAnyK_take0 6 (.agg #[.int .i64 2, .int .i64 xr, .int .i64 0]) rfl (by kernel_rfl) (fun _ _ _ h => h) hS rfl (by intro w; go_simp) ?_
                simp only [List.getElem_toArray, List.getElem_cons_succ, List.getElem_cons_zero, Act.put, List.setIfInBounds_toArray, List.set_cons_zero, List.set_cons_succ]
                refine wpAnyK_1 7 (by kernel_rfl) (wpOpK' rfl rfl ?_)
                intro K0 hK0
                have hst := ret2_ret (implStep_any _ u 2 xr 0 WQ h.hN.no ok2 HOK.out _ rfl)
                unfold stV at hst
                refine ocall (f := 20) (args := #[.agg #[.int .i64 u.items, .slice q1 q2 q3, .slice u1 u2 u3], .agg #[.int .i64 2, .int .i64 xr, .int .i64 0]]) (by go_simp) hst (fun v4 W4 h4 => hK0.out _ _ (by obtain ⟨_, _, _, _, _, kx⟩ := h4; have g := h.keep kx; exact ⟨(g.b11).c0, (g.b11).c1, (g.b11).c2⟩) ?_)
                obtain ⟨vw, _, rfl, rfl, hTA, kx⟩ := h4
                clear hst hK0 K0 hS
                simp only [List.getElem_toArray, List.getElem_cons_succ, List.getElem_cons_zero, Act.put, List.setIfInBounds_toArray, List.set_cons_zero, List.set_cons_succ]
                obtain ⟨base, hbase⟩ : ∃ base, WQ.heap.size = base := ⟨_, rfl⟩
                have hBb : B11 < base := by have := h.b11.lt; omega
                rw [hbase] at hTA
                obtain ⟨x, hxx⟩ : ∃ x, stS u 2 xr 0 = x := ⟨_, rfl⟩
                rw [hxx] at hTA
                have hx4 : x.ps.length ≤ 1048576 := by rw [← hxx]; have := stS_len u 2 xr 0; omega
                have HXX := Lib.hid hxx
                obtain ⟨m1, m2, m3, s1, s2, s3, rfl, _⟩ := hTA.put3i (b := B11) hBb
                have hX := (hTA.rt (A := fun q => q = B11 ∨ q = Y) hx4 (fun q hq e => by omega))
                replace h := h.keep kx
                replace bY := bY.keep kx
                clear kx hbase hTA hxx
                generalize W4 = WQ at *
                have hS : WQ.cell? ⟨B11, 0, none⟩ = some (.int .i64 u.items) ∧ WQ.cell? ⟨B11, 1, none⟩ = some (.slice q1 q2 q3) ∧ WQ.cell? ⟨B11, 2, none⟩ = some (.slice u1 u2 u3) := ⟨h.b11.c0, h.b11.c1, h.b11.c2⟩
                refine wpAnyK_take0 8 (.tuple #[.agg #[.int .i64 x.items, .slice m1 m2 m3, .slice s1 s2 s3], .bool ok2]) rfl (by kernel_rfl) (fun _ _ _ h => h) hS rfl (by intro w; go_simp) ?_
                simp only [List.getElem_toArray, List.getElem_cons_succ, List.getElem_cons_zero, Act.put, List.setIfInBounds_toArray, List.set_cons_zero, List.set_cons_succ]
                refine wpAnyK_take0 9 (.agg #[.int .i64 x.items, .slice m1 m2 m3, .slice s1 s2 s3]) rfl (by kernel_rfl) (fun _ _ _ h => h) hS rfl (by intro w; go_simp) ?_
                simp only [List.getElem_toArray, List.getElem_cons_succ, List.getElem_cons_zero, Act.put, List.setIfInBounds_toArray, List.set_cons_zero, List.set_cons_succ]
                refine wpAnyK_take0 10 (.bool ok2) rfl (by kernel_rfl) (fun _ _ _ h => h) hS rfl (by intro w; go_simp) ?_
                simp only [List.getElem_toArray, List.getElem_cons_succ, List.getElem_cons_zero, Act.put, List.setIfInBounds_toArray, List.set_cons_zero, List.set_cons_succ]
                refine wpAnyK_tail 12 rfl (by kernel_rfl) ?_
                clear hS
                simp only [List.drop_succ_cons, List.drop_zero]
                obtain ⟨e0, e1, e2, ef⟩ := id bY
                have ef0 := ef 0
                have ef1 := ef 1
                have ef2 := ef 2
                clear ef
                have hYB : ¬ Y = B11 := by have := h.far; omega
                have bYN := ((bY.set0 (.int .i64 x.items)).set1 (.slice m1 m2 m3)).set2 (.slice s1 s2 s3)
                have ch := (Chg.refl (fun q => q = Y) WQ).put3 (b := Y) (fun _ => rfl) (.int .i64 x.items) (.slice m1 m2 m3) (.slice s1 s2 s3)
                replace h := h.putY hYS (.int .i64 x.items) (.slice m1 m2 m3) (.slice s1 s2 s3)
                replace hX := hX.step ch (fun q e => .inr e)
                refine wpList_plain rfl (fun K1 hK1 => ?_)
                unfold Oper.wp execOp
                go_simp
                refine hK1 _ _ ?_
                clear hK1 K1 e0 e1 e2 ef0 ef1 ef2 ch bY
                generalize ((WQ.setCell ⟨Y, 0, none⟩ (.int .i64 x.items)).setCell ⟨Y, 1, none⟩ (.slice m1 m2 m3)).setCell ⟨Y, 2, none⟩ (.slice s1 s2 s3) = WN at h hX bYN ⊢
                have HXX2 := HXX.out
                cases ok2
                · obtain ⟨c0, c1, c2, _⟩ := id h.b11
                  obtain ⟨d0, d1, d2, _⟩ := id h.b5
                  go_wp2_with fail
                  refine (vTour_same _ _ u WN h.hN.no h.hE.no).mono ?_
                  rintro e w9 ⟨_, rfl, rfl, k9⟩
                  have HK := Lib.hid (h.kk.keep k9)
                  clear c0 c1 c2 d0 d1 d2 h k9
                  go_wp2_with fail
                  go_ret
                  exact ⟨rfl, HK.out⟩
                · have ho : okStep u 2 xr 0 = true := by
                    have := HOK2.out
                    unfold okS at this
                    rw [HV.out] at this
                    simpa using this
                  have hxe : x = stepT u 2 xr 0 := by rw [← HXX2]; unfold stS; rw [HOK2.out]; rfl
                  obtain ⟨hvx, hox, hbk⟩ := req_back HV.out xr ho
                  rw [← hxe] at hvx hox hbk
                  have hok4 : okS x 4 0 0 = true := by unfold okS; rw [hvx, hox]; rfl
                  have hst4 : stS x 4 0 0 = u := by unfold stS; rw [hok4]; exact hbk
                  have H4 := Lib.hid (And.intro hok4 hst4)
                  obtain ⟨c0, c1, c2, _⟩ := id bYN
                  clear ho hxe hvx hox hbk hok4 hst4 HXX2
                  go_wp2_with fail
                  have q4 := implStep_any _ x 4 0 0 WN hX.no true H4.out.1 u H4.out.2
                  unfold stV at q4
                  refine q4.mono ?_
                  rintro e w9 ⟨v9, _, rfl, rfl, hTA, k9⟩
                  clear q4 c0 c1 c2 bYN hX
                  replace h := h.keep k9
                  have hT9 := hTA.rt (by omega) (A := No) (fun _ _ e => e)
                  obtain ⟨n1, n2, n3, z1, z2, z3, rfl⟩ := hTA.u.shape
                  have b19 := Box3.new w9 (.int .i64 u.items) (.slice n1 n2 n3) (.slice z1 z2 z3) 31
                  have ka := (Chg.refl No w9).alloc (.cells #[.int .i64 u.items, .slice n1 n2 n3, .slice z1 z2 z3] 31)
                  replace h := h.keep ka
                  replace hT9 := hT9.keep ka
                  clear hTA k9 ka
                  obtain ⟨c0, c1, c2, _⟩ := id b19
                  obtain ⟨d0, d1, d2, _⟩ := id h.b11
                  go_wp2_with fail
                  refine (vTour_same _ _ u _ hT9 h.hN.no).mono ?_
                  rintro e w10 ⟨_, rfl, rfl, k10⟩
                  replace h := h.keep k10
                  clear c0 c1 c2 d0 d1 d2 b19 hT9 k10
                  obtain ⟨c0, c1, c2, _⟩ := id h.b11
                  obtain ⟨d0, d1, d2, _⟩ := id h.b5
                  go_wp2_with fail
                  refine (vTour_same _ _ u w10 h.hN.no h.hE.no).mono ?_
                  rintro e w11 ⟨_, rfl, rfl, k11⟩
                  have HK := Lib.hid (h.kk.keep k11)
                  clear c0 c1 c2 d0 d1 d2 h k11
                  go_wp2_with fail
                  go_ret
                  exact ⟨rfl, HK.out⟩
            · skip
              intro K0 hK0
              unfold Oper.wp execOp
              go_simp
              have kx := (Chg.refl No WQ).alloc (.cells #[.int .i64 0, .slice none 0 0, .slice none 0 0] 31)
              have bY := Box3.new WQ (.int .i64 0) (.slice none 0 0) (.slice none 0 0) 31
              obtain ⟨Y, hY⟩ : ∃ Y, WQ.heap.size = Y := ⟨_, rfl⟩
              have hYS : S0 ≤ Y := by have := h.far; omega
              skip
              replace h := h.keep kx
              replace h3 := h3.step kx hbq (fun e => e); replace hbq := Nat.lt_of_lt_of_le hbq kx.size
              refine hK0.out _ _ ⟨h.b11.c0, h.b11.c1, h.b11.c2, h3.c0, h3.c1, h3.c2⟩ ?_
              clear hK0 K0 hS
              simp only [List.setIfInBounds_toArray]
              rw [hY] at bY ⊢
              have hYl := bY.lt
              clear kx hY
              generalize WQ.alloc (.cells #[.int .i64 0, .slice none 0 0, .slice none 0 0] 31) = WQ at *
              have hS : WQ.cell? ⟨B11, 0, none⟩ = some (.int .i64 u.items) ∧ WQ.cell? ⟨B11, 1, none⟩ = some (.slice q1 q2 q3) ∧ WQ.cell? ⟨B11, 2, none⟩ = some (.slice u1 u2 u3) ∧ WQ.cell? ⟨b, off + j * 3, none⟩ = some (.int .i64 y.k) ∧ WQ.cell? ⟨b, off + j * 3 + 1, none⟩ = some (.int .i64 y.a) ∧ WQ.cell? ⟨b, off + j * 3 + 2, none⟩ = some (.int .i64 y.b) := ⟨h.b11.c0, h.b11.c1, h.b11.c2, h3.c0, h3.c1, h3.c2⟩
              refine wpAnyK_1 5 (by kernel_rfl) (wpOpK' rfl rfl ?_)
              intro K0 hK0
              have hst := ret2_ret (implStep_any _ u y.k y.a y.b WQ h.hN.no false HOK.out _ rfl)
              unfold stV at hst
              refine ocall (f := 20) (args := #[.agg #[.int .i64 u.items, .slice q1 q2 q3, .slice u1 u2 u3], .agg #[.int .i64 y.k, .int .i64 y.a, .int .i64 y.b]]) (by go_simp) hst (fun v4 W4 h4 => hK0.out _ _ (by obtain ⟨_, _, _, _, _, kx⟩ := h4; have g := h.keep kx; exact ⟨(g.b11).c0, (g.b11).c1, (g.b11).c2, (h3.step kx hbq (fun e => e)).c0, (h3.step kx hbq (fun e => e)).c1, (h3.step kx hbq (fun e => e)).c2⟩) ?_)
              obtain ⟨vw, _, rfl, rfl, hTA, kx⟩ := h4
              clear hst hK0 K0 hS
              simp only [List.getElem_toArray, List.getElem_cons_succ, List.getElem_cons_zero, Act.put, List.setIfInBounds_toArray, List.set_cons_zero, List.set_cons_succ]
              obtain ⟨base, hbase⟩ : ∃ base, WQ.heap.size = base := ⟨_, rfl⟩
              have hBb : B11 < base := by have := h.b11.lt; omega
              rw [hbase] at hTA
              obtain ⟨x, hxx⟩ : ∃ x, stS u y.k y.a y.b = x := ⟨_, rfl⟩
              rw [hxx] at hTA
              have hx4 : x.ps.length ≤ 1048576 := by rw [← hxx]; have := stS_len u y.k y.a y.b; omega
              have HXX := Lib.hid hxx
              obtain ⟨m1, m2, m3, s1, s2, s3, rfl, _⟩ := hTA.put3i (b := B11) hBb
              have hX := (hTA.rt (A := fun q => q = B11 ∨ q = Y) hx4 (fun q hq e => by omega))
              replace h := h.keep kx
              replace bY := bY.keep kx; replace h3 := h3.step kx hbq (fun e => e); replace hbq := Nat.lt_of_lt_of_le hbq kx.size
              clear kx hbase hTA hxx
              generalize W4 = WQ at *
              have hS : WQ.cell? ⟨B11, 0, none⟩ = some (.int .i64 u.items) ∧ WQ.cell? ⟨B11, 1, none⟩ = some (.slice q1 q2 q3) ∧ WQ.cell? ⟨B11, 2, none⟩ = some (.slice u1 u2 u3) ∧ WQ.cell? ⟨b, off + j * 3, none⟩ = some (.int .i64 y.k) ∧ WQ.cell? ⟨b, off + j * 3 + 1, none⟩ = some (.int .i64 y.a) ∧ WQ.cell? ⟨b, off + j * 3 + 2, none⟩ = some (.int .i64 y.b) := ⟨h.b11.c0, h.b11.c1, h.b11.c2, h3.c0, h3.c1, h3.c2⟩
              refine wpAnyK_take0 6 (.tuple #[.agg #[.int .i64 x.items, .slice m1 m2 m3, .slice s1 s2 s3], .bool false]) rfl (by kernel_rfl) (fun _ _ _ h => h) hS rfl (by intro w; go_simp) ?_
              simp only [List.getElem_toArray, List.getElem_cons_succ, List.getElem_cons_zero, Act.put, List.setIfInBounds_toArray, List.set_cons_zero, List.set_cons_succ]
              refine wpAnyK_take0 7 (.agg #[.int .i64 x.items, .slice m1 m2 m3, .slice s1 s2 s3]) rfl (by kernel_rfl) (fun _ _ _ h => h) hS rfl (by intro w; go_simp) ?_
              simp only [List.getElem_toArray, List.getElem_cons_succ, List.getElem_cons_zero, Act.put, List.setIfInBounds_toArray, List.set_cons_zero, List.set_cons_succ]
              refine wpAnyK_take0 8 (.bool false) rfl (by kernel_rfl) (fun _ _ _ h => h) hS rfl (by intro w; go_simp) ?_
              simp only [List.getElem_toArray, List.getElem_cons_succ, List.getElem_cons_zero, Act.put, List.setIfInBounds_toArray, List.set_cons_zero, List.set_cons_succ]
              refine wpAnyK_tail 10 rfl (by kernel_rfl) ?_
              clear hS
              simp only [List.drop_succ_cons, List.drop_zero]
              obtain ⟨e0, e1, e2, ef⟩ := id bY
              have ef0 := ef 0
              have ef1 := ef 1
              have ef2 := ef 2
              clear ef
              have hYB : ¬ Y = B11 := by have := h.far; omega
              have bYN := ((bY.set0 (.int .i64 x.items)).set1 (.slice m1 m2 m3)).set2 (.slice s1 s2 s3)
              have ch := (Chg.refl (fun q => q = Y) WQ).put3 (b := Y) (fun _ => rfl) (.int .i64 x.items) (.slice m1 m2 m3) (.slice s1 s2 s3)
              replace h := h.putY hYS (.int .i64 x.items) (.slice m1 m2 m3) (.slice s1 s2 s3)
              replace hX := hX.step ch (fun q e => .inr e)
              refine wpList_plain rfl (fun K1 hK1 => ?_)
              unfold Oper.wp execOp
              go_simp
              refine hK1 _ _ ?_
              clear hK1 K1 e0 e1 e2 ef0 ef1 ef2 ch bY
              generalize ((WQ.setCell ⟨Y, 0, none⟩ (.int .i64 x.items)).setCell ⟨Y, 1, none⟩ (.slice m1 m2 m3)).setCell ⟨Y, 2, none⟩ (.slice s1 s2 s3) = WN at h hX bYN ⊢
              clear hX bYN h3 hbq HXX hYS hYl hYB hx4 hBb HOK
              try clear S0
              go_wp2_with fail
              have HOK := HOK2
              refine wp_region_K (S := fun WQ => WQ.cell? ⟨B11, 0, none⟩ = some (.int .i64 u.items) ∧ WQ.cell? ⟨B11, 1, none⟩ = some (.slice q1 q2 q3) ∧ WQ.cell? ⟨B11, 2, none⟩ = some (.slice u1 u2 u3)) (k := 12) (by kernel_rfl) ?_
              have kd := (Chg.refl No WN).drew
              replace h := (h.keep kd).fresh
              clear kd
              generalize hWQ : WN.drew = WQ at h ⊢
              clear hWQ
              obtain ⟨S0, hS0⟩ : ∃ S0, WQ.heap.size = S0 := ⟨_, rfl⟩
              rw [hS0] at h
              clear hS0
              have hS : WQ.cell? ⟨B11, 0, none⟩ = some (.int .i64 u.items) ∧ WQ.cell? ⟨B11, 1, none⟩ = some (.slice q1 q2 q3) ∧ WQ.cell? ⟨B11, 2, none⟩ = some (.slice u1 u2 u3) := ⟨h.b11.c0, h.b11.c1, h.b11.c2⟩
              refine wpAnyK_takeT 0 (.agg #[.int .i64 u.items, .slice q1 q2 q3, .slice u1 u2 u3]) rfl (by kernel_rfl) (fun _ _ _ h => h) hS rfl (by intro w hSw; go_simp) ?_
              simp only [List.getElem_toArray, List.getElem_cons_zero, Act.put, List.setIfInBounds_toArray, List.set_cons_zero, List.set_cons_succ]
              refine wpAnyK_take0 1 (.slice a N cp) rfl (by kernel_rfl) (fun _ _ _ h => h) hS rfl (by intro w; go_simp) ?_
              simp only [List.getElem_toArray, List.getElem_cons_succ, List.getElem_cons_zero, Act.put, List.setIfInBounds_toArray, List.set_cons_zero, List.set_cons_succ]
              refine wpAnyK_take0 3 (.pointer (some ⟨B11, 0, none⟩)) rfl (by kernel_rfl) (fun _ _ _ h => h) hS rfl (by intro w; go_simp) ?_
              simp only [List.getElem_toArray, List.getElem_cons_succ, List.getElem_cons_zero, Act.put, List.setIfInBounds_toArray, List.set_cons_zero, List.set_cons_succ]
              refine wpAnyK_takeT 4 (.int .i64 u.items) rfl (by kernel_rfl) (fun _ _ _ h => h) hS rfl (by intro w hSw; go_simp) ?_
              simp only [List.getElem_toArray, List.getElem_cons_succ, List.getElem_cons_zero, Act.put, List.setIfInBounds_toArray, List.set_cons_zero, List.set_cons_succ]
              refine wpAnyK_2 2 11 (by kernel_rfl) (wpOpK' rfl rfl ?_) (wpOpK' rfl rfl ?_)
              · skip
                intro K0 hK0
                refine ocallE (f := 21) (args := #[.slice a N cp, .int .i64 8]) (φ := fun v W' => v = .int .i64 x8 ∧ W' = WQ) (by go_simp) ((HV8.out WQ h.kk).mono (fun e w'' q => ⟨_, q.1, rfl, q.2.symm⟩)) (fun v2 W2 h2 => hK0.out _ _ (by obtain ⟨_, e2⟩ := h2; rw [e2]; exact ⟨h.b11.c0, h.b11.c1, h.b11.c2⟩) ?_)
                obtain ⟨rfl, e2⟩ := h2
                rw [e2]
                clear hK0 K0 e2
                simp only [List.getElem_toArray, List.getElem_cons_succ, List.getElem_cons_zero, Act.put, List.setIfInBounds_toArray, List.set_cons_zero, List.set_cons_succ]
                refine wpAnyK_take 5 (.int .i64 xr) rfl (by kernel_rfl) (fun _ _ _ h => h) hS rfl (by rintro w _; go_simp) ?_
                simp only [List.getElem_toArray, List.getElem_cons_succ, List.getElem_cons_zero, Act.put, List.setIfInBounds_toArray, List.set_cons_zero, List.set_cons_succ]
                refine wpAnyK_take0 6 (.agg #[.int .i64 2, .int .i64 xr, .int .i64 0]) rfl (by kernel_rfl) (fun _ _ _ h => h) hS rfl (by intro w; go_simp) ?_
                simp only [List.getElem_toArray, List.getElem_cons_succ, List.getElem_cons_zero, Act.put, List.setIfInBounds_toArray, List.set_cons_zero, List.set_cons_succ]
                refine wpAnyK_2 7 11 (by kernel_rfl) (wpOpK' rfl rfl ?_) (wpOpK' rfl rfl ?_)
                · skip
                  intro K0 hK0
                  have hst := ret2_ret (implStep_any _ u 2 xr 0 WQ h.hN.no ok2 HOK.out _ rfl)
                  unfold stV at hst
                  refine ocall (f := 20) (args := #[.agg #[.int .i64 u.items, .slice q1 q2 q3, .slice u1 u2 u3], .agg #[.int .i64 2, .int .i64 xr, .int .i64 0]]) (by go_simp) hst (fun v4 W4 h4 => hK0.out _ _ (by obtain ⟨_, _, _, _, _, kx⟩ := h4; have g := h.keep kx; exact ⟨(g.b11).c0, (g.b11).c1, (g.b11).c2⟩) ?_)
                  obtain ⟨vw, _, rfl, rfl, hTA, kx⟩ := h4
                  clear hst hK0 K0 hS
                  simp only [List.getElem_toArray, List.getElem_cons_succ, List.getElem_cons_zero, Act.put, List.setIfInBounds_toArray, List.set_cons_zero, List.set_cons_succ]
                  obtain ⟨base, hbase⟩ : ∃ base, WQ.heap.size = base := ⟨_, rfl⟩
                  have hBb : B11 < base := by have := h.b11.lt; omega
                  rw [hbase] at hTA
                  obtain ⟨x, hxx⟩ : ∃ x, stS u 2 xr 0 = x := ⟨_, rfl⟩
                  rw [hxx] at hTA
                  have hx4 : x.ps.length ≤ 1048576 := by rw [← hxx]; have := stS_len u 2 xr 0; omega
                  have HXX := Lib.hid hxx
                  obtain ⟨m1, m2, m3, s1, s2, s3, rfl, _⟩ := hTA.put3i (b := B11) hBb
                  have hX := (hTA.rt (A := fun q => q = B11) hx4 (fun q hq e => by omega))
                  replace h := h.keep kx
                  skip
                  clear kx hbase hTA hxx
                  generalize W4 = WQ at *
                  have hS : WQ.cell? ⟨B11, 0, none⟩ = some (.int .i64 u.items) ∧ WQ.cell? ⟨B11, 1, none⟩ = some (.slice q1 q2 q3) ∧ WQ.cell? ⟨B11, 2, none⟩ = some (.slice u1 u2 u3) := ⟨h.b11.c0, h.b11.c1, h.b11.c2⟩
                  refine wpAnyK_take0 8 (.tuple #[.agg #[.int .i64 x.items, .slice m1 m2 m3, .slice s1 s2 s3], .bool ok2]) rfl (by kernel_rfl) (fun _ _ _ h => h) hS rfl (by intro w; go_simp) ?_
                  simp only [List.getElem_toArray, List.getElem_cons_succ, List.getElem_cons_zero, Act.put, List.setIfInBounds_toArray, List.set_cons_zero, List.set_cons_succ]
                  refine wpAnyK_take0 9 (.agg #[.int .i64 x.items, .slice m1 m2 m3, .slice s1 s2 s3]) rfl (by kernel_rfl) (fun _ _ _ h => h) hS rfl (by intro w; go_simp) ?_
                  simp only [List.getElem_toArray, List.getElem_cons_succ, List.getElem_cons_zero, Act.put, List.setIfInBounds_toArray, List.set_cons_zero, List.set_cons_succ]
                  refine wpAnyK_take0 10 (.bool ok2) rfl (by kernel_rfl) (fun _ _ _ h => h) hS rfl (by intro w; go_simp) ?_
                  simp only [List.getElem_toArray, List.getElem_cons_succ, List.getElem_cons_zero, Act.put, List.setIfInBounds_toArray, List.set_cons_zero, List.set_cons_succ]
                  refine wpAnyK_1 11 (by kernel_rfl) (wpOpK' rfl rfl ?_)
                  intro K0 hK0
                  unfold Oper.wp execOp
                  go_simp
                  have kx := (Chg.refl No WQ).alloc (.cells #[.int .i64 0, .slice none 0 0, .slice none 0 0] 31)
                  have bY := Box3.new WQ (.int .i64 0) (.slice none 0 0) (.slice none 0 0) 31
                  obtain ⟨Y, hY⟩ : ∃ Y, WQ.heap.size = Y := ⟨_, rfl⟩
                  have hYS : S0 ≤ Y := by have := h.far; omega
                  replace hX := (hX.weakS (B := fun q => q = B11 ∨ q = Y) (fun q e hl => by omega)).keep kx
                  replace h := h.keep kx
                  skip
                  refine hK0.out _ _ ⟨h.b11.c0, h.b11.c1, h.b11.c2⟩ ?_
                  clear hK0 K0 hS
                  simp only [List.setIfInBounds_toArray]
                  rw [hY] at bY ⊢
                  have hYl := bY.lt
                  clear kx hY
                  generalize WQ.alloc (.cells #[.int .i64 0, .slice none 0 0, .slice none 0 0] 31) = WQ at *
                  have hS : WQ.cell? ⟨B11, 0, none⟩ = some (.int .i64 u.items) ∧ WQ.cell? ⟨B11, 1, none⟩ = some (.slice q1 q2 q3) ∧ WQ.cell? ⟨B11, 2, none⟩ = some (.slice u1 u2 u3) := ⟨h.b11.c0, h.b11.c1, h.b11.c2⟩
                  refine wpAnyK_tail 12 rfl (by kernel_rfl) ?_
                  clear hS
                  simp only [List.drop_succ_cons, List.drop_zero]
                  obtain ⟨e0, e1, e2, ef⟩ := id bY
                  have ef0 := ef 0
                  have ef1 := ef 1
                  have ef2 := ef 2
                  clear ef
                  have hYB : ¬ Y = B11 := by have := h.far; omega
                  have bYN := ((bY.set0 (.int .i64 x.items)).set1 (.slice m1 m2 m3)).set2 (.slice s1 s2 s3)
                  have ch := (Chg.refl (fun q => q = Y) WQ).put3 (b := Y) (fun _ => rfl) (.int .i64 x.items) (.slice m1 m2 m3) (.slice s1 s2 s3)
                  replace h := h.putY hYS (.int .i64 x.items) (.slice m1 m2 m3) (.slice s1 s2 s3)
                  replace hX := hX.step ch (fun q e => .inr e)
                  refine wpList_plain rfl (fun K1 hK1 => ?_)
                  unfold Oper.wp execOp
                  go_simp
                  refine hK1 _ _ ?_
                  clear hK1 K1 e0 e1 e2 ef0 ef1 ef2 ch bY
                  generalize ((WQ.setCell ⟨Y, 0, none⟩ (.int .i64 x.items)).setCell ⟨Y, 1, none⟩ (.slice m1 m2 m3)).setCell ⟨Y, 2, none⟩ (.slice s1 s2 s3) = WN at h hX bYN ⊢
                  have HXX2 := HXX.out
                  cases ok2
                  · obtain ⟨c0, c1, c2, _⟩ := id h.b11
                    obtain ⟨d0, d1, d2, _⟩ := id h.b5
                    go_wp2_with fail
                    refine (vTour_same _ _ u WN h.hN.no h.hE.no).mono ?_
                    rintro e w9 ⟨_, rfl, rfl, k9⟩
                    have HK := Lib.hid (h.kk.keep k9)
                    clear c0 c1 c2 d0 d1 d2 h k9
                    go_wp2_with fail
                    go_ret
                    exact ⟨rfl, HK.out⟩
                  · have ho : okStep u 2 xr 0 = true := by
                      have := HOK2.out
                      unfold okS at this
                      rw [HV.out] at this
                      simpa using this
                    have hxe : x = stepT u 2 xr 0 := by rw [← HXX2]; unfold stS; rw [HOK2.out]; rfl
                    obtain ⟨hvx, hox, hbk⟩ := req_back HV.out xr ho
                    rw [← hxe] at hvx hox hbk
                    have hok4 : okS x 4 0 0 = true := by unfold okS; rw [hvx, hox]; rfl
                    have hst4 : stS x 4 0 0 = u := by unfold stS; rw [hok4]; exact hbk
                    have H4 := Lib.hid (And.intro hok4 hst4)
                    obtain ⟨c0, c1, c2, _⟩ := id bYN
                    clear ho hxe hvx hox hbk hok4 hst4 HXX2
                    go_wp2_with fail
                    have q4 := implStep_any _ x 4 0 0 WN hX.no true H4.out.1 u H4.out.2
                    unfold stV at q4
                    refine q4.mono ?_
                    rintro e w9 ⟨v9, _, rfl, rfl, hTA, k9⟩
                    clear q4 c0 c1 c2 bYN hX
                    replace h := h.keep k9
                    have hT9 := hTA.rt (by omega) (A := No) (fun _ _ e => e)
                    obtain ⟨n1, n2, n3, z1, z2, z3, rfl⟩ := hTA.u.shape
                    have b19 := Box3.new w9 (.int .i64 u.items) (.slice n1 n2 n3) (.slice z1 z2 z3) 31
                    have ka := (Chg.refl No w9).alloc (.cells #[.int .i64 u.items, .slice n1 n2 n3, .slice z1 z2 z3] 31)
                    replace h := h.keep ka
                    replace hT9 := hT9.keep ka
                    clear hTA k9 ka
                    obtain ⟨c0, c1, c2, _⟩ := id b19
                    obtain ⟨d0, d1, d2, _⟩ := id h.b11
                    go_wp2_with fail
                    refine (vTour_same _ _ u _ hT9 h.hN.no).mono ?_
                    rintro e w10 ⟨_, rfl, rfl, k10⟩
                    replace h := h.keep k10
                    clear c0 c1 c2 d0 d1 d2 b19 hT9 k10
                    obtain ⟨c0, c1, c2, _⟩ := id h.b11
                    obtain ⟨d0, d1, d2, _⟩ := id h.b5
                    go_wp2_with fail
                    refine (vTour_same _ _ u w10 h.hN.no h.hE.no).mono ?_
                    rintro e w11 ⟨_, rfl, rfl, k11⟩
                    have HK := Lib.hid (h.kk.keep k11)
                    clear c0 c1 c2 d0 d1 d2 h k11
                    go_wp2_with fail
                    go_ret
                    exact ⟨rfl, HK.out⟩
                · skip
                  intro K0 hK0
                  unfold Oper.wp execOp
                  go_simp
                  have kx := (Chg.refl No WQ).alloc (.cells #[.int .i64 0, .slice none 0 0, .slice none 0 0] 31)
                  have bY := Box3.new WQ (.int .i64 0) (.slice none 0 0) (.slice none 0 0) 31
                  obtain ⟨Y, hY⟩ : ∃ Y, WQ.heap.size = Y := ⟨_, rfl⟩
                  have hYS : S0 ≤ Y := by have := h.far; omega
                  skip
                  replace h := h.keep kx
                  skip
                  refine hK0.out _ _ ⟨h.b11.c0, h.b11.c1, h.b11.c2⟩ ?_
                  clear hK0 K0 hS
                  simp only [List.setIfInBounds_toArray]
                  rw [hY] at bY ⊢
                  have hYl := bY.lt
                  clear kx hY
                  generalize WQ.alloc (.cells #[.int .i64 0, .slice none 0 0, .slice none 0 0] 31) = WQ at *
                  have hS : WQ.cell? ⟨B11, 0, none⟩ = some (.int .i64 u.items) ∧ WQ.cell? ⟨B11, 1, none⟩ = some (.slice q1 q2 q3) ∧ WQ.cell? ⟨B11, 2, none⟩ = some (.slice u1 u2 u3) := ⟨h.b11.c0, h.b11.c1, h.b11.c2⟩
                  refine wpAnyK_1 7 (by kernel_rfl) (wpOpK' rfl rfl ?_)
                  intro K0 hK0
                  have hst := ret2_ret (implStep_any _ u 2 xr 0 WQ h.hN.no ok2 HOK.out _ rfl)
                  unfold stV at hst
                  refine ocall (f := 20) (args := #[.agg #[.int .i64 u.items, .slice q1 q2 q3, .slice u1 u2 u3], .agg #[.int .i64 2, .int .i64 xr, .int .i64 0]]) (by go_simp) hst (fun v4 W4 h4 => hK0.out _ _ (by obtain ⟨_, _, _, _, _, kx⟩ := h4; have g := h.keep kx; exact ⟨(g.b11).c0, (g.b11).c1, (g.b11).c2⟩) ?_)
                  obtain ⟨vw, _, rfl, rfl, hTA, kx⟩ := h4
                  clear hst hK0 K0 hS
                  simp only [List.getElem_toArray, List.getElem_cons_succ, List.getElem_cons_zero, Act.put, List.setIfInBounds_toArray, List.set_cons_zero, List.set_cons_succ]
                  obtain ⟨base, hbase⟩ : ∃ base, WQ.heap.size = base := ⟨_, rfl⟩
                  have hBb : B11 < base := by have := h.b11.lt; omega
                  rw [hbase] at hTA
                  obtain ⟨x, hxx⟩ : ∃ x, stS u 2 xr 0 = x := ⟨_, rfl⟩
                  rw [hxx] at hTA
                  have hx4 : x.ps.length ≤ 1048576 := by rw [← hxx]; have := stS_len u 2 xr 0; omega
                  have HXX := Lib.hid hxx
                  obtain ⟨m1, m2, m3, s1, s2, s3, rfl, _⟩ := hTA.put3i (b := B11) hBb
                  have hX := (hTA.rt (A := fun q => q = B11 ∨ q = Y) hx4 (fun q hq e => by omega))
                  replace h := h.keep kx
                  replace bY := bY.keep kx
                  clear kx hbase hTA hxx
                  generalize W4 = WQ at *
                  have hS : WQ.cell? ⟨B11, 0, none⟩ = some (.int .i64 u.items) ∧ WQ.cell? ⟨B11, 1, none⟩ = some (.slice q1 q2 q3) ∧ WQ.cell? ⟨B11, 2, none⟩ = some (.slice u1 u2 u3) := ⟨h.b11.c0, h.b11.c1, h.b11.c2⟩
                  refine wpAnyK_take0 8 (.tuple #[.agg #[.int .i64 x.items, .slice m1 m2 m3, .slice s1 s2 s3], .bool ok2]) rfl (by kernel_rfl) (fun _ _ _ h => h) hS rfl (by intro w; go_simp) ?_
                  simp only [List.getElem_toArray, List.getElem_cons_succ, List.getElem_cons_zero, Act.put, List.setIfInBounds_toArray, List.set_cons_zero, List.set_cons_succ]
                  refine wpAnyK_take0 9 (.agg #[.int .i64 x.items, .slice m1 m2 m3, .slice s1 s2 s3]) rfl (by kernel_rfl) (fun _ _ _ h => h) hS rfl (by intro w; go_simp) ?_
                  simp only [List.getElem_toArray, List.getElem_cons_succ, List.getElem_cons_zero, Act.put, List.setIfInBounds_toArray, List.set_cons_zero, List.set_cons_succ]
                  refine wpAnyK_take0 10 (.bool ok2) rfl (by kernel_rfl) (fun _ _ _ h => h) hS rfl (by intro w; go_simp) ?_
                  simp only [List.getElem_toArray, List.getElem_cons_succ, List.getElem_cons_zero, Act.put, List.setIfInBounds_toArray, List.set_cons_zero, List.set_cons_succ]
                  refine wpAnyK_tail 12 rfl (by kernel_rfl) ?_
                  clear hS
                  simp only [List.drop_succ_cons, List.drop_zero]
                  obtain ⟨e0, e1, e2, ef⟩ := id bY
                  have ef0 := ef 0
                  have ef1 := ef 1
                  have ef2 := ef 2
                  clear ef
                  have hYB : ¬ Y = B11 := by have := h.far; omega
                  have bYN := ((bY.set0 (.int .i64 x.items)).set1 (.slice m1 m2 m3)).set2 (.slice s1 s2 s3)
                  have ch := (Chg.refl (fun q => q = Y) WQ).put3 (b := Y) (fun _ => rfl) (.int .i64 x.items) (.slice m1 m2 m3) (.slice s1 s2 s3)
                  replace h := h.putY hYS (.int .i64 x.items) (.slice m1 m2 m3) (.slice s1 s2 s3)
                  replace hX := hX.step ch (fun q e => .inr e)
                  refine wpList_plain rfl (fun K1 hK1 => ?_)
                  unfold Oper.wp execOp
                  go_simp
                  refine hK1 _ _ ?_
                  clear hK1 K1 e0 e1 e2 ef0 ef1 ef2 ch bY
                  generalize ((WQ.setCell ⟨Y, 0, none⟩ (.int .i64 x.items)).setCell ⟨Y, 1, none⟩ (.slice m1 m2 m3)).setCell ⟨Y, 2, none⟩ (.slice s1 s2 s3) = WN at h hX bYN ⊢
                  have HXX2 := HXX.out
                  cases ok2
                  · obtain ⟨c0, c1, c2, _⟩ := id h.b11
                    obtain ⟨d0, d1, d2, _⟩ := id h.b5
                    go_wp2_with fail
                    refine (vTour_same _ _ u WN h.hN.no h.hE.no).mono ?_
                    rintro e w9 ⟨_, rfl, rfl, k9⟩
                    have HK := Lib.hid (h.kk.keep k9)
                    clear c0 c1 c2 d0 d1 d2 h k9
                    go_wp2_with fail
                    go_ret
                    exact ⟨rfl, HK.out⟩
                  · have ho : okStep u 2 xr 0 = true := by
                      have := HOK2.out
                      unfold okS at this
                      rw [HV.out] at this
                      simpa using this
                    have hxe : x = stepT u 2 xr 0 := by rw [← HXX2]; unfold stS; rw [HOK2.out]; rfl
                    obtain ⟨hvx, hox, hbk⟩ := req_back HV.out xr ho
                    rw [← hxe] at hvx hox hbk
                    have hok4 : okS x 4 0 0 = true := by unfold okS; rw [hvx, hox]; rfl
                    have hst4 : stS x 4 0 0 = u := by unfold stS; rw [hok4]; exact hbk
                    have H4 := Lib.hid (And.intro hok4 hst4)
                    obtain ⟨c0, c1, c2, _⟩ := id bYN
                    clear ho hxe hvx hox hbk hok4 hst4 HXX2
                    go_wp2_with fail
                    have q4 := implStep_any _ x 4 0 0 WN hX.no true H4.out.1 u H4.out.2
                    unfold stV at q4
                    refine q4.mono ?_
                    rintro e w9 ⟨v9, _, rfl, rfl, hTA, k9⟩
                    clear q4 c0 c1 c2 bYN hX
                    replace h := h.keep k9
                    have hT9 := hTA.rt (by omega) (A := No) (fun _ _ e => e)
                    obtain ⟨n1, n2, n3, z1, z2, z3, rfl⟩ := hTA.u.shape
                    have b19 := Box3.new w9 (.int .i64 u.items) (.slice n1 n2 n3) (.slice z1 z2 z3) 31
                    have ka := (Chg.refl No w9).alloc (.cells #[.int .i64 u.items, .slice n1 n2 n3, .slice z1 z2 z3] 31)
                    replace h := h.keep ka
                    replace hT9 := hT9.keep ka
                    clear hTA k9 ka
                    obtain ⟨c0, c1, c2, _⟩ := id b19
                    obtain ⟨d0, d1, d2, _⟩ := id h.b11
                    go_wp2_with fail
                    refine (vTour_same _ _ u _ hT9 h.hN.no).mono ?_
                    rintro e w10 ⟨_, rfl, rfl, k10⟩
                    replace h := h.keep k10
                    clear c0 c1 c2 d0 d1 d2 b19 hT9 k10
                    obtain ⟨c0, c1, c2, _⟩ := id h.b11
                    obtain ⟨d0, d1, d2, _⟩ := id h.b5
                    go_wp2_with fail
                    refine (vTour_same _ _ u w10 h.hN.no h.hE.no).mono ?_
                    rintro e w11 ⟨_, rfl, rfl, k11⟩
                    have HK := Lib.hid (h.kk.keep k11)
                    clear c0 c1 c2 d0 d1 d2 h k11
                    go_wp2_with fail
                    go_ret
                    exact ⟨rfl, HK.out⟩
              · skip
                intro K0 hK0
                unfold Oper.wp execOp
                go_simp
                have kx := (Chg.refl No WQ).alloc (.cells #[.int .i64 0, .slice none 0 0, .slice none 0 0] 31)
                have bY := Box3.new WQ (.int .i64 0) (.slice none 0 0) (.slice none 0 0) 31
                obtain ⟨Y, hY⟩ : ∃ Y, WQ.heap.size = Y := ⟨_, rfl⟩
                have hYS : S0 ≤ Y := by have := h.far; omega
                skip
                replace h := h.keep kx
                skip
                refine hK0.out _ _ ⟨h.b11.c0, h.b11.c1, h.b11.c2⟩ ?_
                clear hK0 K0 hS
                simp only [List.setIfInBounds_toArray]
                rw [hY] at bY ⊢
                have hYl := bY.lt
                clear kx hY
                generalize WQ.alloc (.cells #[.int .i64 0, .slice none 0 0, .slice none 0 0] 31) = WQ at *
                have hS : WQ.cell? ⟨B11, 0, none⟩ = some (.int .i64 u.items) ∧ WQ.cell? ⟨B11, 1, none⟩ = some (.slice q1 q2 q3) ∧ WQ.cell? ⟨B11, 2, none⟩ = some (.slice u1 u2 u3) := ⟨h.b11.c0, h.b11.c1, h.b11.c2⟩
                refine wpAnyK_1 2 (by kernel_rfl) (wpOpK' rfl rfl ?_)
                intro K0 hK0
                refine ocallE (f := 21) (args := #[.slice a N cp, .int .i64 8]) (φ := fun v W' => v = .int .i64 x8 ∧ W' = WQ) (by go_simp) ((HV8.out WQ h.kk).mono (fun e w'' q => ⟨_, q.1, rfl, q.2.symm⟩)) (fun v2 W2 h2 => hK0.out _ _ (by obtain ⟨_, e2⟩ := h2; rw [e2]; exact ⟨h.b11.c0, h.b11.c1, h.b11.c2⟩) ?_)
                obtain ⟨rfl, e2⟩ := h2
                rw [e2]
                clear hK0 K0 e2
                simp only [List.getElem_toArray, List.getElem_cons_succ, List.getElem_cons_zero, Act.put, List.setIfInBounds_toArray, List.set_cons_zero, List.set_cons_succ]
                refine wpAnyK_take 5 (.int .i64 xr) rfl (by kernel_rfl) (fun _ _ _ h => h) hS rfl (by rintro w _; go_simp) ?_
                simp only [List.getElem_toArray, List.getElem_cons_succ, List.getElem_cons_zero, Act.put, List.setIfInBounds_toArray, List.set_cons_zero, List.set_cons_succ]
                refine wpAnyK_take0 6 (.agg #[.int .i64 2, .int .i64 xr, .int .i64 0]) rfl (by kernel_rfl) (fun _ _ _ h => h) hS rfl (by intro w; go_simp) ?_
                simp only [List.getElem_toArray, List.getElem_cons_succ, List.getElem_cons_zero, Act.put, List.setIfInBounds_toArray, List.set_cons_zero, List.set_cons_succ]
                refine wpAnyK_1 7 (by kernel_rfl) (wpOpK' rfl rfl ?_)
                intro K0 hK0
                have hst := ret2_ret (implStep_any _ u 2 xr 0 WQ h.hN.no ok2 HOK.out _ rfl)
                unfold stV at hst
                refine ocall (f := 20) (args := #[.agg #[.int .i64 u.items, .slice q1 q2 q3, .slice u1 u2 u3], .agg #[.int .i64 2, .int .i64 xr, .int .i64 0]]) (by go_simp) hst (fun v4 W4 h4 => hK0.out _ _ (by obtain ⟨_, _, _, _, _, kx⟩ := h4; have g := h.keep kx; exact ⟨(g.b11).c0, (g.b11).c1, (g.b11).c2⟩) ?_)
                obtain ⟨vw, _, rfl, rfl, hTA, kx⟩ := h4
                clear hst hK0 K0 hS
                simp only [List.getElem_toArray, List.getElem_cons_succ, List.getElem_cons_zero, Act.put, List.setIfInBounds_toArray, List.set_cons_zero, List.set_cons_succ]
                obtain ⟨base, hbase⟩ : ∃ base, WQ.heap.size = base := ⟨_, rfl⟩
                have hBb : B11 < base := by have := h.b11.lt; omega
                rw [hbase] at hTA
                obtain ⟨x, hxx⟩ : ∃ x, stS u 2 xr 0 = x := ⟨_, rfl⟩
                rw [hxx] at hTA
                have hx4 : x.ps.length ≤ 1048576 := by rw [← hxx]; have := stS_len u 2 xr 0; omega
                have HXX := Lib.hid hxx
                obtain ⟨m1, m2, m3, s1, s2, s3, rfl, _⟩ := hTA.put3i (b := B11) hBb
                have hX := (hTA.rt (A := fun q => q = B11 ∨ q = Y) hx4 (fun q hq e => by omega))
                replace h := h.keep kx
                replace bY := bY.keep kx
                clear kx hbase hTA hxx
                generalize W4 = WQ at *
                have hS : WQ.cell? ⟨B11, 0, none⟩ = some (.int .i64 u.items) ∧ WQ.cell? ⟨B11, 1, none⟩ = some (.slice q1 q2 q3) ∧ WQ.cell? ⟨B11, 2, none⟩ = some (.slice u1 u2 u3) := ⟨h.b11.c0, h.b11.c1, h.b11.c2⟩
                refine wpAnyK_take0 8 (.tuple #[.agg #[.int .i64 x.items, .slice m1 m2 m3, .slice s1 s2 s3], .bool ok2]) rfl (by kernel_rfl) (fun _ _ _ h => h) hS rfl (by intro w; go_simp) ?_
                simp only [List.getElem_toArray, List.getElem_cons_succ, List.getElem_cons_zero, Act.put, List.setIfInBounds_toArray, List.set_cons_zero, List.set_cons_succ]
                refine wpAnyK_take0 9 (.agg #[.int .i64 x.items, .slice m1 m2 m3, .slice s1 s2 s3]) rfl (by kernel_rfl) (fun _ _ _ h => h) hS rfl (by intro w; go_simp) ?_
                simp only [List.getElem_toArray, List.getElem_cons_succ, List.getElem_cons_zero, Act.put, List.setIfInBounds_toArray, List.set_cons_zero, List.set_cons_succ]
                refine wpAnyK_take0 10 (.bool ok2) rfl (by kernel_rfl) (fun _ _ _ h => h) hS rfl (by intro w; go_simp) ?_
                simp only [List.getElem_toArray, List.getElem_cons_succ, List.getElem_cons_zero, Act.put, List.setIfInBounds_toArray, List.set_cons_zero, List.set_cons_succ]
                refine wpAnyK_tail 12 rfl (by kernel_rfl) ?_
                clear hS
                simp only [List.drop_succ_cons, List.drop_zero]
                obtain ⟨e0, e1, e2, ef⟩ := id bY
                have ef0 := ef 0
                have ef1 := ef 1
                have ef2 := ef 2
                clear ef
                have hYB : ¬ Y = B11 := by have := h.far; omega
                have bYN := ((bY.set0 (.int .i64 x.items)).set1 (.slice m1 m2 m3)).set2 (.slice s1 s2 s3)
                have ch := (Chg.refl (fun q => q = Y) WQ).put3 (b := Y) (fun _ => rfl) (.int .i64 x.items) (.slice m1 m2 m3) (.slice s1 s2 s3)
                replace h := h.putY hYS (.int .i64 x.items) (.slice m1 m2 m3) (.slice s1 s2 s3)
                replace hX := hX.step ch (fun q e => .inr e)
                refine wpList_plain rfl (fun K1 hK1 => ?_)
                unfold Oper.wp execOp
                go_simp
                refine hK1 _ _ ?_
                clear hK1 K1 e0 e1 e2 ef0 ef1 ef2 ch bY
                generalize ((WQ.setCell ⟨Y, 0, none⟩ (.int .i64 x.items)).setCell ⟨Y, 1, none⟩ (.slice m1 m2 m3)).setCell ⟨Y, 2, none⟩ (.slice s1 s2 s3) = WN at h hX bYN ⊢
                have HXX2 := HXX.out
                cases ok2
                · obtain ⟨c0, c1, c2, _⟩ := id h.b11
                  obtain ⟨d0, d1, d2, _⟩ := id h.b5
                  go_wp2_with fail
                  refine (vTour_same _ _ u WN h.hN.no h.hE.no).mono ?_
                  rintro e w9 ⟨_, rfl, rfl, k9⟩
                  have HK := Lib.hid (h.kk.keep k9)
                  clear c0 c1 c2 d0 d1 d2 h k9
                  go_wp2_with fail
                  go_ret
                  exact ⟨rfl, HK.out⟩
                · have ho : okStep u 2 xr 0 = true := by
                    have := HOK2.out
                    unfold okS at this
                    rw [HV.out] at this
                    simpa using this
                  have hxe : x = stepT u 2 xr 0 := by rw [← HXX2]; unfold stS; rw [HOK2.out]; rfl
                  obtain ⟨hvx, hox, hbk⟩ := req_back HV.out xr ho
                  rw [← hxe] at hvx hox hbk
                  have hok4 : okS x 4 0 0 = true := by unfold okS; rw [hvx, hox]; rfl
                  have hst4 : stS x 4 0 0 = u := by unfold stS; rw [hok4]; exact hbk
                  have H4 := Lib.hid (And.intro hok4 hst4)
                  obtain ⟨c0, c1, c2, _⟩ := id bYN
                  clear ho hxe hvx hox hbk hok4 hst4 HXX2
                  go_wp2_with fail
                  have q4 := implStep_any _ x 4 0 0 WN hX.no true H4.out.1 u H4.out.2
                  unfold stV at q4
                  refine q4.mono ?_
                  rintro e w9 ⟨v9, _, rfl, rfl, hTA, k9⟩
                  clear q4 c0 c1 c2 bYN hX
                  replace h := h.keep k9
                  have hT9 := hTA.rt (by omega) (A := No) (fun _ _ e => e)
                  obtain ⟨n1, n2, n3, z1, z2, z3, rfl⟩ := hTA.u.shape
                  have b19 := Box3.new w9 (.int .i64 u.items) (.slice n1 n2 n3) (.slice z1 z2 z3) 31
                  have ka := (Chg.refl No w9).alloc (.cells #[.int .i64 u.items, .slice n1 n2 n3, .slice z1 z2 z3] 31)
                  replace h := h.keep ka
                  replace hT9 := hT9.keep ka
                  clear hTA k9 ka
                  obtain ⟨c0, c1, c2, _⟩ := id b19
                  obtain ⟨d0, d1, d2, _⟩ := id h.b11
                  go_wp2_with fail
                  refine (vTour_same _ _ u _ hT9 h.hN.no).mono ?_
                  rintro e w10 ⟨_, rfl, rfl, k10⟩
                  replace h := h.keep k10
                  clear c0 c1 c2 d0 d1 d2 b19 hT9 k10
                  obtain ⟨c0, c1, c2, _⟩ := id h.b11
                  obtain ⟨d0, d1, d2, _⟩ := id h.b5
                  go_wp2_with fail
                  refine (vTour_same _ _ u w10 h.hN.no h.hE.no).mono ?_
                  rintro e w11 ⟨_, rfl, rfl, k11⟩
                  have HK := Lib.hid (h.kk.keep k11)
                  clear c0 c1 c2 d0 d1 d2 h k11
                  go_wp2_with fail
                  go_ret
                  exact ⟨rfl, HK.out⟩
          · have hj2 : ¬ (j : Int) < (ss.length : Int) := by omega
            clear hu
            obtain ⟨WN, hWN⟩ : ∃ WN, wr = WN := ⟨_, rfl⟩
            rw [hWN] at h ⊢
            clear hWN
            go_wp2_with fail
            have HOK := HOK2
            refine wp_region_K (S := fun WQ => WQ.cell? ⟨B11, 0, none⟩ = some (.int .i64 u.items) ∧ WQ.cell? ⟨B11, 1, none⟩ = some (.slice q1 q2 q3) ∧ WQ.cell? ⟨B11, 2, none⟩ = some (.slice u1 u2 u3)) (k := 12) (by kernel_rfl) ?_
            have kd := (Chg.refl No WN).drew
            replace h := (h.keep kd).fresh
            clear kd
            generalize hWQ : WN.drew = WQ at h ⊢
            clear hWQ
            obtain ⟨S0, hS0⟩ : ∃ S0, WQ.heap.size = S0 := ⟨_, rfl⟩
            rw [hS0] at h
            clear hS0
            have hS : WQ.cell? ⟨B11, 0, none⟩ = some (.int .i64 u.items) ∧ WQ.cell? ⟨B11, 1, none⟩ = some (.slice q1 q2 q3) ∧ WQ.cell? ⟨B11, 2, none⟩ = some (.slice u1 u2 u3) := ⟨h.b11.c0, h.b11.c1, h.b11.c2⟩
            refine wpAnyK_takeT 0 (.agg #[.int .i64 u.items, .slice q1 q2 q3, .slice u1 u2 u3]) rfl (by kernel_rfl) (fun _ _ _ h => h) hS rfl (by intro w hSw; go_simp) ?_
            simp only [List.getElem_toArray, List.getElem_cons_zero, Act.put, List.setIfInBounds_toArray, List.set_cons_zero, List.set_cons_succ]
            refine wpAnyK_take0 1 (.slice a N cp) rfl (by kernel_rfl) (fun _ _ _ h => h) hS rfl (by intro w; go_simp) ?_
            simp only [List.getElem_toArray, List.getElem_cons_succ, List.getElem_cons_zero, Act.put, List.setIfInBounds_toArray, List.set_cons_zero, List.set_cons_succ]
            refine wpAnyK_take0 3 (.pointer (some ⟨B11, 0, none⟩)) rfl (by kernel_rfl) (fun _ _ _ h => h) hS rfl (by intro w; go_simp) ?_
            simp only [List.getElem_toArray, List.getElem_cons_succ, List.getElem_cons_zero, Act.put, List.setIfInBounds_toArray, List.set_cons_zero, List.set_cons_succ]
            refine wpAnyK_takeT 4 (.int .i64 u.items) rfl (by kernel_rfl) (fun _ _ _ h => h) hS rfl (by intro w hSw; go_simp) ?_
            simp only [List.getElem_toArray, List.getElem_cons_succ, List.getElem_cons_zero, Act.put, List.setIfInBounds_toArray, List.set_cons_zero, List.set_cons_succ]
            refine wpAnyK_2 2 11 (by kernel_rfl) (wpOpK' rfl rfl ?_) (wpOpK' rfl rfl ?_)
            · skip
              intro K0 hK0
              refine ocallE (f := 21) (args := #[.slice a N cp, .int .i64 8]) (φ := fun v W' => v = .int .i64 x8 ∧ W' = WQ) (by go_simp) ((HV8.out WQ h.kk).mono (fun e w'' q => ⟨_, q.1, rfl, q.2.symm⟩)) (fun v2 W2 h2 => hK0.out _ _ (by obtain ⟨_, e2⟩ := h2; rw [e2]; exact ⟨h.b11.c0, h.b11.c1, h.b11.c2⟩) ?_)
              obtain ⟨rfl, e2⟩ := h2
              rw [e2]
              clear hK0 K0 e2
              simp only [List.getElem_toArray, List.getElem_cons_succ, List.getElem_cons_zero, Act.put, List.setIfInBounds_toArray, List.set_cons_zero, List.set_cons_succ]
              refine wpAnyK_take 5 (.int .i64 xr) rfl (by kernel_rfl) (fun _ _ _ h => h) hS rfl (by rintro w _; go_simp) ?_
              simp only [List.getElem_toArray, List.getElem_cons_succ, List.getElem_cons_zero, Act.put, List.setIfInBounds_toArray, List.set_cons_zero, List.set_cons_succ]
              refine wpAnyK_take0 6 (.agg #[.int .i64 2, .int .i64 xr, .int .i64 0]) rfl (by kernel_rfl) (fun _ _ _ h => h) hS rfl (by intro w; go_simp) ?_
              simp only [List.getElem_toArray, List.getElem_cons_succ, List.getElem_cons_zero, Act.put, List.setIfInBounds_toArray, List.set_cons_zero, List.set_cons_succ]
              refine wpAnyK_2 7 11 (by kernel_rfl) (wpOpK' rfl rfl ?_) (wpOpK' rfl rfl ?_)
              · skip
                intro K0 hK0
                have hst := ret2_ret (implStep_any _ u 2 xr 0 WQ h.hN.no ok2 HOK.out _ rfl)
                unfold stV at hst
                refine ocall (f := 20) (args := #[.agg #[.int .i64 u.items, .slice q1 q2 q3, .slice u1 u2 u3], .agg #[.int .i64 2, .int .i64 xr, .int .i64 0]]) (by go_simp) hst (fun v4 W4 h4 => hK0.out _ _ (by obtain ⟨_, _, _, _, _, kx⟩ := h4; have g := h.keep kx; exact ⟨(g.b11).c0, (g.b11).c1, (g.b11).c2⟩) ?_)
                obtain ⟨vw, _, rfl, rfl, hTA, kx⟩ := h4
                clear hst hK0 K0 hS
                simp only [List.getElem_toArray, List.getElem_cons_succ, List.getElem_cons_zero, Act.put, List.setIfInBounds_toArray, List.set_cons_zero, List.set_cons_succ]
                obtain ⟨base, hbase⟩ : ∃ base, WQ.heap.size = base := ⟨_, rfl⟩
                have hBb : B11 < base := by have := h.b11.lt; omega
                rw [hbase] at hTA
                obtain ⟨x, hxx⟩ : ∃ x, stS u 2 xr 0 = x := ⟨_, rfl⟩
                rw [hxx] at hTA
                have hx4 : x.ps.length ≤ 1048576 := by rw [← hxx]; have := stS_len u 2 xr 0; omega
                have HXX := Lib.hid hxx
                obtain ⟨m1, m2, m3, s1, s2, s3, rfl, _⟩ := hTA.put3i (b := B11) hBb
                have hX := (hTA.rt (A := fun q => q = B11) hx4 (fun q hq e => by omega))
                replace h := h.keep kx
                skip
                clear kx hbase hTA hxx
                generalize W4 = WQ at *
                have hS : WQ.cell? ⟨B11, 0, none⟩ = some (.int .i64 u.items) ∧ WQ.cell? ⟨B11, 1, none⟩ = some (.slice q1 q2 q3) ∧ WQ.cell? ⟨B11, 2, none⟩ = some (.slice u1 u2 u3) := ⟨h.b11.c0, h.b11.c1, h.b11.c2⟩
                refine wpAnyK_take0 8 (.tuple #[.agg #[.int .i64 x.items, .slice m1 m2 m3, .slice s1 s2 s3], .bool ok2]) rfl (by kernel_rfl) (fun _ _ _ h => h) hS rfl (by intro w; go_simp) ?_
                simp only [List.getElem_toArray, List.getElem_cons_succ, List.getElem_cons_zero, Act.put, List.setIfInBounds_toArray, List.set_cons_zero, List.set_cons_succ]
                refine wpAnyK_take0 9 (.agg #[.int .i64 x.items, .slice m1 m2 m3, .slice s1 s2 s3]) rfl (by kernel_rfl) (fun _ _ _ h => h) hS rfl (by intro w; go_simp) ?_
                simp only [List.getElem_toArray, List.getElem_cons_succ, List.getElem_cons_zero, Act.put, List.setIfInBounds_toArray, List.set_cons_zero, List.set_cons_succ]
                refine wpAnyK_take0 10 (.bool ok2) rfl (by kernel_rfl) (fun _ _ _ h => h) hS rfl (by intro w; go_simp) ?_
                simp only [List.getElem_toArray, List.getElem_cons_succ, List.getElem_cons_zero, Act.put, List.setIfInBounds_toArray, List.set_cons_zero, List.set_cons_succ]
                refine wpAnyK_1 11 (by kernel_rfl) (wpOpK' rfl rfl ?_)
                intro K0 hK0
                unfold Oper.wp execOp
                go_simp
                have kx := (Chg.refl No WQ).alloc (.cells #[.int .i64 0, .slice none 0 0, .slice none 0 0] 31)
                have bY := Box3.new WQ (.int .i64 0) (.slice none 0 0) (.slice none 0 0) 31
                obtain ⟨Y, hY⟩ : ∃ Y, WQ.heap.size = Y := ⟨_, rfl⟩
                have hYS : S0 ≤ Y := by have := h.far; omega
                replace hX := (hX.weakS (B := fun q => q = B11 ∨ q = Y) (fun q e hl => by omega)).keep kx
                replace h := h.keep kx
                skip
                refine hK0.out _ _ ⟨h.b11.c0, h.b11.c1, h.b11.c2⟩ ?_
                clear hK0 K0 hS
                simp only [List.setIfInBounds_toArray]
                rw [hY] at bY ⊢
                have hYl := bY.lt
                clear kx hY
                generalize WQ.alloc (.cells #[.int .i64 0, .slice none 0 0, .slice none 0 0] 31) = WQ at *
                have hS : WQ.cell? ⟨B11, 0, none⟩ = some (.int .i64 u.items) ∧ WQ.cell? ⟨B11, 1, none⟩ = some (.slice q1 q2 q3) ∧ WQ.cell? ⟨B11, 2, none⟩ = some (.slice u1 u2 u3) := ⟨h.b11.c0, h.b11.c1, h.b11.c2⟩
                refine wpAnyK_tail 12 rfl (by kernel_rfl) ?_
                clear hS
                simp only [List.drop_succ_cons, List.drop_zero]
                obtain ⟨e0, e1, e2, ef⟩ := id bY
                have ef0 := ef 0
                have ef1 := ef 1
                have ef2 := ef 2
                clear ef
                have hYB : ¬ Y = B11 := by have := h.far; omega
                have bYN := ((bY.set0 (.int .i64 x.items)).set1 (.slice m1 m2 m3)).set2 (.slice s1 s2 s3)
                have ch := (Chg.refl (fun q => q = Y) WQ).put3 (b := Y) (fun _ => rfl) (.int .i64 x.items) (.slice m1 m2 m3) (.slice s1 s2 s3)
                replace h := h.putY hYS (.int .i64 x.items) (.slice m1 m2 m3) (.slice s1 s2 s3)
                replace hX := hX.step ch (fun q e => .inr e)
                refine wpList_plain rfl (fun K1 hK1 => ?_)
                unfold Oper.wp execOp
                go_simp
                refine hK1 _ _ ?_
                clear hK1 K1 e0 e1 e2 ef0 ef1 ef2 ch bY
                generalize ((WQ.setCell ⟨Y, 0, none⟩ (.int .i64 x.items)).setCell ⟨Y, 1, none⟩ (.slice m1 m2 m3)).setCell ⟨Y, 2, none⟩ (.slice s1 s2 s3) = WN at h hX bYN ⊢
                have HXX2 := HXX.out
                cases ok2
                · obtain ⟨c0, c1, c2, _⟩ := id h.b11
                  obtain ⟨d0, d1, d2, _⟩ := id h.b5
                  go_wp2_with fail
                  refine (vTour_same _ _ u WN h.hN.no h.hE.no).mono ?_
                  rintro e w9 ⟨_, rfl, rfl, k9⟩
                  have HK := Lib.hid (h.kk.keep k9)
                  clear c0 c1 c2 d0 d1 d2 h k9
                  go_wp2_with fail
                  go_ret
                  exact ⟨rfl, HK.out⟩
                · have ho : okStep u 2 xr 0 = true := by
                    have := HOK2.out
                    unfold okS at this
                    rw [HV.out] at this
                    simpa using this
                  have hxe : x = stepT u 2 xr 0 := by rw [← HXX2]; unfold stS; rw [HOK2.out]; rfl
                  obtain ⟨hvx, hox, hbk⟩ := req_back HV.out xr ho
                  rw [← hxe] at hvx hox hbk
                  have hok4 : okS x 4 0 0 = true := by unfold okS; rw [hvx, hox]; rfl
                  have hst4 : stS x 4 0 0 = u := by unfold stS; rw [hok4]; exact hbk
                  have H4 := Lib.hid (And.intro hok4 hst4)
                  obtain ⟨c0, c1, c2, _⟩ := id bYN
                  clear ho hxe hvx hox hbk hok4 hst4 HXX2
                  go_wp2_with fail
                  have q4 := implStep_any _ x 4 0 0 WN hX.no true H4.out.1 u H4.out.2
                  unfold stV at q4
                  refine q4.mono ?_
                  rintro e w9 ⟨v9, _, rfl, rfl, hTA, k9⟩
                  clear q4 c0 c1 c2 bYN hX
                  replace h := h.keep k9
                  have hT9 := hTA.rt (by omega) (A := No) (fun _ _ e => e)
                  obtain ⟨n1, n2, n3, z1, z2, z3, rfl⟩ := hTA.u.shape
                  have b19 := Box3.new w9 (.int .i64 u.items) (.slice n1 n2 n3) (.slice z1 z2 z3) 31
                  have ka := (Chg.refl No w9).alloc (.cells #[.int .i64 u.items, .slice n1 n2 n3, .slice z1 z2 z3] 31)
                  replace h := h.keep ka
                  replace hT9 := hT9.keep ka
                  clear hTA k9 ka
                  obtain ⟨c0, c1, c2, _⟩ := id b19
                  obtain ⟨d0, d1, d2, _⟩ := id h.b11
                  go_wp2_with fail
                  refine (vTour_same _ _ u _ hT9 h.hN.no).mono ?_
                  rintro e w10 ⟨_, rfl, rfl, k10⟩
                  replace h := h.keep k10
                  clear c0 c1 c2 d0 d1 d2 b19 hT9 k10
                  obtain ⟨c0, c1, c2, _⟩ := id h.b11
                  obtain ⟨d0, d1, d2, _⟩ := id h.b5
                  go_wp2_with fail
                  refine (vTour_same _ _ u w10 h.hN.no h.hE.no).mono ?_
                  rintro e w11 ⟨_, rfl, rfl, k11⟩
                  have HK := Lib.hid (h.kk.keep k11)
                  clear c0 c1 c2 d0 d1 d2 h k11
                  go_wp2_with fail
                  go_ret
                  exact ⟨rfl, HK.out⟩
              · skip
                intro K0 hK0
                unfold Oper.wp execOp
                go_simp
                have kx := (Chg.refl No WQ).alloc (.cells #[.int .i64 0, .slice none 0 0, .slice none 0 0] 31)
                have bY := Box3.new WQ (.int .i64 0) (.slice none 0 0) (.slice none 0 0) 31
                obtain ⟨Y, hY⟩ : ∃ Y, WQ.heap.size = Y := ⟨_, rfl⟩
                have hYS : S0 ≤ Y := by have := h.far; omega
                skip
                replace h := h.keep kx
                skip
                refine hK0.out _ _ ⟨h.b11.c0, h.b11.c1, h.b11.c2⟩ ?_
                clear hK0 K0 hS
                simp only [List.setIfInBounds_toArray]
                rw [hY] at bY ⊢
                have hYl := bY.lt
                clear kx hY
                generalize WQ.alloc (.cells #[.int .i64 0, .slice none 0 0, .slice none 0 0] 31) = WQ at *
                have hS : WQ.cell? ⟨B11, 0, none⟩ = some (.int .i64 u.items) ∧ WQ.cell? ⟨B11, 1, none⟩ = some (.slice q1 q2 q3) ∧ WQ.cell? ⟨B11, 2, none⟩ = some (.slice u1 u2 u3) := ⟨h.b11.c0, h.b11.c1, h.b11.c2⟩
                refine wpAnyK_1 7 (by kernel_rfl) (wpOpK' rfl rfl ?_)
                intro K0 hK0
                have hst := ret2_ret (implStep_any _ u 2 xr 0 WQ h.hN.no ok2 HOK.out _ rfl)
                unfold stV at hst
                refine ocall (f := 20) (args := #[.agg #[.int .i64 u.items, .slice q1 q2 q3, .slice u1 u2 u3], .agg #[.int .i64 2, .int .i64 xr, .int .i64 0]]) (by go_simp) hst (fun v4 W4 h4 => hK0.out _ _ (by obtain ⟨_, _, _, _, _, kx⟩ := h4; have g := h.keep kx; exact ⟨(g.b11).c0, (g.b11).c1, (g.b11).c2⟩) ?_)
                obtain ⟨vw, _, rfl, rfl, hTA, kx⟩ := h4
                clear hst hK0 K0 hS
                simp only [List.getElem_toArray, List.getElem_cons_succ, List.getElem_cons_zero, Act.put, List.setIfInBounds_toArray, List.set_cons_zero, List.set_cons_succ]
                obtain ⟨base, hbase⟩ : ∃ base, WQ.heap.size = base := ⟨_, rfl⟩
                have hBb : B11 < base := by have := h.b11.lt; omega
                rw [hbase] at hTA
                obtain ⟨x, hxx⟩ : ∃ x, stS u 2 xr 0 = x := ⟨_, rfl⟩
                rw [hxx] at hTA
                have hx4 : x.ps.length ≤ 1048576 := by rw [← hxx]; have := stS_len u 2 xr 0; omega
                have HXX := Lib.hid hxx
                obtain ⟨m1, m2, m3, s1, s2, s3, rfl, _⟩ := hTA.put3i (b := B11) hBb
                have hX := (hTA.rt (A := fun q => q = B11 ∨ q = Y) hx4 (fun q hq e => by omega))
                replace h := h.keep kx
                replace bY := bY.keep kx
                clear kx hbase hTA hxx
                generalize W4 = WQ at *
                have hS : WQ.cell? ⟨B11, 0, none⟩ = some (.int .i64 u.items) ∧ WQ.cell? ⟨B11, 1, none⟩ = some (.slice q1 q2 q3) ∧ WQ.cell? ⟨B11, 2, none⟩ = some (.slice u1 u2 u3) := ⟨h.b11.c0, h.b11.c1, h.b11.c2⟩
                refine wpAnyK_take0 8 (.tuple #[.agg #[.int .i64 x.items, .slice m1 m2 m3, .slice s1 s2 s3], .bool ok2]) rfl (by kernel_rfl) (fun _ _ _ h => h) hS rfl (by intro w; go_simp) ?_
                simp only [List.getElem_toArray, List.getElem_cons_succ, List.getElem_cons_zero, Act.put, List.setIfInBounds_toArray, List.set_cons_zero, List.set_cons_succ]
                refine wpAnyK_take0 9 (.agg #[.int .i64 x.items, .slice m1 m2 m3, .slice s1 s2 s3]) rfl (by kernel_rfl) (fun _ _ _ h => h) hS rfl (by intro w; go_simp) ?_
                simp only [List.getElem_toArray, List.getElem_cons_succ, List.getElem_cons_zero, Act.put, List.setIfInBounds_toArray, List.set_cons_zero, List.set_cons_succ]
                refine wpAnyK_take0 10 (.bool ok2) rfl (by kernel_rfl) (fun _ _ _ h => h) hS rfl (by intro w; go_simp) ?_
                simp only [List.getElem_toArray, List.getElem_cons_succ, List.getElem_cons_zero, Act.put, List.setIfInBounds_toArray, List.set_cons_zero, List.set_cons_succ]
                refine wpAnyK_tail 12 rfl (by kernel_rfl) ?_
                clear hS
                simp only [List.drop_succ_cons, List.drop_zero]
                obtain ⟨e0, e1, e2, ef⟩ := id bY
                have ef0 := ef 0
                have ef1 := ef 1
                have ef2 := ef 2
                clear ef
                have hYB : ¬ Y = B11 := by have := h.far; omega
                have bYN := ((bY.set0 (.int .i64 x.items)).set1 (.slice m1 m2 m3)).set2 (.slice s1 s2 s3)
                have ch := (Chg.refl (fun q => q = Y) WQ).put3 (b := Y) (fun _ => rfl) (.int .i64 x.items) (.slice m1 m2 m3) (.slice s1 s2 s3)
                replace h := h.putY hYS (.int .i64 x.items) (.slice m1 m2 m3) (.slice s1 s2 s3)
                replace hX := hX.step ch (fun q e => .inr e)
                refine wpList_plain rfl (fun K1 hK1 => ?_)
                unfold Oper.wp execOp
                go_simp
                refine hK1 _ _ ?_
                clear hK1 K1 e0 e1 e2 ef0 ef1 ef2 ch bY
                generalize ((WQ.setCell ⟨Y, 0, none⟩ (.int .i64 x.items)).setCell ⟨Y, 1, none⟩ (.slice m1 m2 m3)).setCell ⟨Y, 2, none⟩ (.slice s1 s2 s3) = WN at h hX bYN ⊢
                have HXX2 := HXX.out
                cases ok2
                · obtain ⟨c0, c1, c2, _⟩ := id h.b11
                  obtain ⟨d0, d1, d2, _⟩ := id h.b5
                  go_wp2_with fail
                  refine (vTour_same _ _ u WN h.hN.no h.hE.no).mono ?_
                  rintro e w9 ⟨_, rfl, rfl, k9⟩
                  have HK := Lib.hid (h.kk.keep k9)
                  clear c0 c1 c2 d0 d1 d2 h k9
                  go_wp2_with fail
                  go_ret
                  exact ⟨rfl, HK.out⟩
                · have ho : okStep u 2 xr 0 = true := by
                    have := HOK2.out
                    unfold okS at this
                    rw [HV.out] at this
                    simpa using this
                  have hxe : x = stepT u 2 xr 0 := by rw [← HXX2]; unfold stS; rw [HOK2.out]; rfl
                  obtain ⟨hvx, hox, hbk⟩ := req_back HV.out xr ho
                  rw [← hxe] at hvx hox hbk
                  have hok4 : okS x 4 0 0 = true := by unfold okS; rw [hvx, hox]; rfl
                  have hst4 : stS x 4 0 0 = u := by unfold stS; rw [hok4]; exact hbk
                  have H4 := Lib.hid (And.intro hok4 hst4)
                  obtain ⟨c0, c1, c2, _⟩ := id bYN
                  clear ho hxe hvx hox hbk hok4 hst4 HXX2
                  go_wp2_with fail
                  have q4 := implStep_any _ x 4 0 0 WN hX.no true H4.out.1 u H4.out.2
                  unfold stV at q4
                  refine q4.mono ?_
                  rintro e w9 ⟨v9, _, rfl, rfl, hTA, k9⟩
                  clear q4 c0 c1 c2 bYN hX
                  replace h := h.keep k9
                  have hT9 := hTA.rt (by omega) (A := No) (fun _ _ e => e)
                  obtain ⟨n1, n2, n3, z1, z2, z3, rfl⟩ := hTA.u.shape
                  have b19 := Box3.new w9 (.int .i64 u.items) (.slice n1 n2 n3) (.slice z1 z2 z3) 31
                  have ka := (Chg.refl No w9).alloc (.cells #[.int .i64 u.items, .slice n1 n2 n3, .slice z1 z2 z3] 31)
                  replace h := h.keep ka
                  replace hT9 := hT9.keep ka
                  clear hTA k9 ka
                  obtain ⟨c0, c1, c2, _⟩ := id b19
                  obtain ⟨d0, d1, d2, _⟩ := id h.b11
                  go_wp2_with fail
                  refine (vTour_same _ _ u _ hT9 h.hN.no).mono ?_
                  rintro e w10 ⟨_, rfl, rfl, k10⟩
                  replace h := h.keep k10
                  clear c0 c1 c2 d0 d1 d2 b19 hT9 k10
                  obtain ⟨c0, c1, c2, _⟩ := id h.b11
                  obtain ⟨d0, d1, d2, _⟩ := id h.b5
                  go_wp2_with fail
                  refine (vTour_same _ _ u w10 h.hN.no h.hE.no).mono ?_
                  rintro e w11 ⟨_, rfl, rfl, k11⟩
                  have HK := Lib.hid (h.kk.keep k11)
                  clear c0 c1 c2 d0 d1 d2 h k11
                  go_wp2_with fail
                  go_ret
                  exact ⟨rfl, HK.out⟩
            · skip
              intro K0 hK0
              unfold Oper.wp execOp
              go_simp
              have kx := (Chg.refl No WQ).alloc (.cells #[.int .i64 0, .slice none 0 0, .slice none 0 0] 31)
              have bY := Box3.new WQ (.int .i64 0) (.slice none 0 0) (.slice none 0 0) 31
              obtain ⟨Y, hY⟩ : ∃ Y, WQ.heap.size = Y := ⟨_, rfl⟩
              have hYS : S0 ≤ Y := by have := h.far; omega
              skip
              replace h := h.keep kx
              skip
              refine hK0.out _ _ ⟨h.b11.c0, h.b11.c1, h.b11.c2⟩ ?_
              clear hK0 K0 hS
              simp only [List.setIfInBounds_toArray]
              rw [hY] at bY ⊢
              have hYl := bY.lt
              clear kx hY
              generalize WQ.alloc (.cells #[.int .i64 0, .slice none 0 0, .slice none 0 0] 31) = WQ at *
              have hS : WQ.cell? ⟨B11, 0, none⟩ = some (.int .i64 u.items) ∧ WQ.cell? ⟨B11, 1, none⟩ = some (.slice q1 q2 q3) ∧ WQ.cell? ⟨B11, 2, none⟩ = some (.slice u1 u2 u3) := ⟨h.b11.c0, h.b11.c1, h.b11.c2⟩
              refine wpAnyK_1 2 (by kernel_rfl) (wpOpK' rfl rfl ?_)
              intro K0 hK0
              refine ocallE (f := 21) (args := #[.slice a N cp, .int .i64 8]) (φ := fun v W' => v = .int .i64 x8 ∧ W' = WQ) (by go_simp) ((HV8.out WQ h.kk).mono (fun e w'' q => ⟨_, q.1, rfl, q.2.symm⟩)) (fun v2 W2 h2 => hK0.out _ _ (by obtain ⟨_, e2⟩ := h2; rw [e2]; exact ⟨h.b11.c0, h.b11.c1, h.b11.c2⟩) ?_)
              obtain ⟨rfl, e2⟩ := h2
              rw [e2]
              clear hK0 K0 e2
              simp only [List.getElem_toArray, List.getElem_cons_succ, List.getElem_cons_zero, Act.put, List.setIfInBounds_toArray, List.set_cons_zero, List.set_cons_succ]
              refine wpAnyK_take 5 (.int .i64 xr) rfl (by kernel_rfl) (fun _ _ _ h => h) hS rfl (by rintro w _; go_simp) ?_
              simp only [List.getElem_toArray, List.getElem_cons_succ, List.getElem_cons_zero, Act.put, List.setIfInBounds_toArray, List.set_cons_zero, List.set_cons_succ]
              refine wpAnyK_take0 6 (.agg #[.int .i64 2, .int .i64 xr, .int .i64 0]) rfl (by kernel_rfl) (fun _ _ _ h => h) hS rfl (by intro w; go_simp) ?_
              simp only [List.getElem_toArray, List.getElem_cons_succ, List.getElem_cons_zero, Act.put, List.setIfInBounds_toArray, List.set_cons_zero, List.set_cons_succ]
              refine wpAnyK_1 7 (by kernel_rfl) (wpOpK' rfl rfl ?_)
              intro K0 hK0
              have hst := ret2_ret (implStep_any _ u 2 xr 0 WQ h.hN.no ok2 HOK.out _ rfl)
              unfold stV at hst
              refine ocall (f := 20) (args := #[.agg #[.int .i64 u.items, .slice q1 q2 q3, .slice u1 u2 u3], .agg #[.int .i64 2, .int .i64 xr, .int .i64 0]]) (by go_simp) hst (fun v4 W4 h4 => hK0.out _ _ (by obtain ⟨_, _, _, _, _, kx⟩ := h4; have g := h.keep kx; exact ⟨(g.b11).c0, (g.b11).c1, (g.b11).c2⟩) ?_)
              obtain ⟨vw, _, rfl, rfl, hTA, kx⟩ := h4
              clear hst hK0 K0 hS
              simp only [List.getElem_toArray, List.getElem_cons_succ, List.getElem_cons_zero, Act.put, List.setIfInBounds_toArray, List.set_cons_zero, List.set_cons_succ]
              obtain ⟨base, hbase⟩ : ∃ base, WQ.heap.size = base := ⟨_, rfl⟩
              have hBb : B11 < base := by have := h.b11.lt; omega
              rw [hbase] at hTA
              obtain ⟨x, hxx⟩ : ∃ x, stS u 2 xr 0 = x := ⟨_, rfl⟩
              rw [hxx] at hTA
              have hx4 : x.ps.length ≤ 1048576 := by rw [← hxx]; have := stS_len u 2 xr 0; omega
              have HXX := Lib.hid hxx
              obtain ⟨m1, m2, m3, s1, s2, s3, rfl, _⟩ := hTA.put3i (b := B11) hBb
              have hX := (hTA.rt (A := fun q => q = B11 ∨ q = Y) hx4 (fun q hq e => by omega))
              replace h := h.keep kx
              replace bY := bY.keep kx
              clear kx hbase hTA hxx
              generalize W4 = WQ at *
              have hS : WQ.cell? ⟨B11, 0, none⟩ = some (.int .i64 u.items) ∧ WQ.cell? ⟨B11, 1, none⟩ = some (.slice q1 q2 q3) ∧ WQ.cell? ⟨B11, 2, none⟩ = some (.slice u1 u2 u3) := ⟨h.b11.c0, h.b11.c1, h.b11.c2⟩
              refine wpAnyK_take0 8 (.tuple #[.agg #[.int .i64 x.items, .slice m1 m2 m3, .slice s1 s2 s3], .bool ok2]) rfl (by kernel_rfl) (fun _ _ _ h => h) hS rfl (by intro w; go_simp) ?_
              simp only [List.getElem_toArray, List.getElem_cons_succ, List.getElem_cons_zero, Act.put, List.setIfInBounds_toArray, List.set_cons_zero, List.set_cons_succ]
              refine wpAnyK_take0 9 (.agg #[.int .i64 x.items, .slice m1 m2 m3, .slice s1 s2 s3]) rfl (by kernel_rfl) (fun _ _ _ h => h) hS rfl (by intro w; go_simp) ?_
              simp only [List.getElem_toArray, List.getElem_cons_succ, List.getElem_cons_zero, Act.put, List.setIfInBounds_toArray, List.set_cons_zero, List.set_cons_succ]
              refine wpAnyK_take0 10 (.bool ok2) rfl (by kernel_rfl) (fun _ _ _ h => h) hS rfl (by intro w; go_simp) ?_
              simp only [List.getElem_toArray, List.getElem_cons_succ, List.getElem_cons_zero, Act.put, List.setIfInBounds_toArray, List.set_cons_zero, List.set_cons_succ]
              refine wpAnyK_tail 12 rfl (by kernel_rfl) ?_
              clear hS
              simp only [List.drop_succ_cons, List.drop_zero]
              obtain ⟨e0, e1, e2, ef⟩ := id bY
              have ef0 := ef 0
              have ef1 := ef 1
              have ef2 := ef 2
              clear ef
              have hYB : ¬ Y = B11 := by have := h.far; omega
              have bYN := ((bY.set0 (.int .i64 x.items)).set1 (.slice m1 m2 m3)).set2 (.slice s1 s2 s3)
              have ch := (Chg.refl (fun q => q = Y) WQ).put3 (b := Y) (fun _ => rfl) (.int .i64 x.items) (.slice m1 m2 m3) (.slice s1 s2 s3)
              replace h := h.putY hYS (.int .i64 x.items) (.slice m1 m2 m3) (.slice s1 s2 s3)
              replace hX := hX.step ch (fun q e => .inr e)
              refine wpList_plain rfl (fun K1 hK1 => ?_)
              unfold Oper.wp execOp
              go_simp
              refine hK1 _ _ ?_
              clear hK1 K1 e0 e1 e2 ef0 ef1 ef2 ch bY
              generalize ((WQ.setCell ⟨Y, 0, none⟩ (.int .i64 x.items)).setCell ⟨Y, 1, none⟩ (.slice m1 m2 m3)).setCell ⟨Y, 2, none⟩ (.slice s1 s2 s3) = WN at h hX bYN ⊢
              have HXX2 := HXX.out
              cases ok2
              · obtain ⟨c0, c1, c2, _⟩ := id h.b11
                obtain ⟨d0, d1, d2, _⟩ := id h.b5
                go_wp2_with fail
                refine (vTour_same _ _ u WN h.hN.no h.hE.no).mono ?_
                rintro e w9 ⟨_, rfl, rfl, k9⟩
                have HK := Lib.hid (h.kk.keep k9)
                clear c0 c1 c2 d0 d1 d2 h k9
                go_wp2_with fail
                go_ret
                exact ⟨rfl, HK.out⟩
              · have ho : okStep u 2 xr 0 = true := by
                  have := HOK2.out
                  unfold okS at this
                  rw [HV.out] at this
                  simpa using this
                have hxe : x = stepT u 2 xr 0 := by rw [← HXX2]; unfold stS; rw [HOK2.out]; rfl
                obtain ⟨hvx, hox, hbk⟩ := req_back HV.out xr ho
                rw [← hxe] at hvx hox hbk
                have hok4 : okS x 4 0 0 = true := by unfold okS; rw [hvx, hox]; rfl
                have hst4 : stS x 4 0 0 = u := by unfold stS; rw [hok4]; exact hbk
                have H4 := Lib.hid (And.intro hok4 hst4)
                obtain ⟨c0, c1, c2, _⟩ := id bYN
                clear ho hxe hvx hox hbk hok4 hst4 HXX2
                go_wp2_with fail
                have q4 := implStep_any _ x 4 0 0 WN hX.no true H4.out.1 u H4.out.2
                unfold stV at q4
                refine q4.mono ?_
                rintro e w9 ⟨v9, _, rfl, rfl, hTA, k9⟩
                clear q4 c0 c1 c2 bYN hX
                replace h := h.keep k9
                have hT9 := hTA.rt (by omega) (A := No) (fun _ _ e => e)
                obtain ⟨n1, n2, n3, z1, z2, z3, rfl⟩ := hTA.u.shape
                have b19 := Box3.new w9 (.int .i64 u.items) (.slice n1 n2 n3) (.slice z1 z2 z3) 31
                have ka := (Chg.refl No w9).alloc (.cells #[.int .i64 u.items, .slice n1 n2 n3, .slice z1 z2 z3] 31)
                replace h := h.keep ka
                replace hT9 := hT9.keep ka
                clear hTA k9 ka
                obtain ⟨c0, c1, c2, _⟩ := id b19
                obtain ⟨d0, d1, d2, _⟩ := id h.b11
                go_wp2_with fail
                refine (vTour_same _ _ u _ hT9 h.hN.no).mono ?_
                rintro e w10 ⟨_, rfl, rfl, k10⟩
                replace h := h.keep k10
                clear c0 c1 c2 d0 d1 d2 b19 hT9 k10
                obtain ⟨c0, c1, c2, _⟩ := id h.b11
                obtain ⟨d0, d1, d2, _⟩ := id h.b5
                go_wp2_with fail
                refine (vTour_same _ _ u w10 h.hN.no h.hE.no).mono ?_
                rintro e w11 ⟨_, rfl, rfl, k11⟩
                have HK := Lib.hid (h.kk.keep k11)
                clear c0 c1 c2 d0 d1 d2 h k11
                go_wp2_with fail
                go_ret
                exact ⟨rfl, HK.out⟩
end Go.Proofs.YtodnkkmjjlfoiaaGreat
