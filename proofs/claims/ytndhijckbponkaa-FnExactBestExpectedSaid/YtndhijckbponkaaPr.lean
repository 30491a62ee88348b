import Derived.Test.YtndhijckbponkaaPq
/- FnExactBestExpected: the law -/
namespace Go.Proofs.Ytndhijckbponkaa
open Go.RowKit

set_option maxRecDepth 100000 in
set_option maxHeartbeats 1000000 in
theorem eqFracP_same (a b : Int) (w : World) :
    Calls Try.prog 24 #[.agg #[.int .i64 a, .int .i64 b], .agg #[.int .i64 a, .int .i64 b]] w (Ret fun v w' => v = .bool true ∧ Chg No w w') := by
  go_enter Try.func24, Try.ntmps24
  go_wp2_with fail
  go_ret
  exact ⟨_, rfl, rfl, ((Chg.refl No w).alloc _).alloc _⟩

set_option maxRecDepth 100000 in
set_option maxHeartbeats 8000000 in
theorem lawExpected_all (mv sv : Value) (m s : List (List Int)) (st : Int) (wa : Option Addr) (wn wc : Nat) (qv : Value) (q : List (List Int)) (w : World) (hm : RIIr No w mv m) (hs : RIIr No w sv s)
    (hwn : wn ≤ 9223372036854775807) (hw : wn ≤ 17592186044416 → ∃ l : List Int, l.length = wn ∧ RI No w (.slice wa wn wc) l) (hq : RIIr No w qv q) :
    Calls Try.prog 5 #[.agg #[mv, sv], .int .i64 st, .agg #[.slice wa wn wc, qv]] w fun e w' => e = .returned (.bool true) ∧ Chg No w w' := by
  obtain ⟨ma, mc, rfl⟩ := hm.shape
  obtain ⟨sa, sc, rfl⟩ := hs.shape
  obtain ⟨qa, qc, rfl⟩ := hq.shape
  go_enter Try.func5, Try.ntmps5
  go_wp2_with fail
  refine bx2 (R := fun W => Calls _ _ _ W _) (fun W0 k0 b0 b1 => ?_)
  refine (szProblem_any _ _ m s 1048576 W0 (hm.keep k0) (hs.keep k0) (by omega) (by omega)).mono ?_
  rintro e w1 ⟨_, rfl, rfl, k1⟩
  have kk := k0.keep k1
  replace b0 := b0.keep k1
  replace b1 := b1.keep k1
  have HZ := Lib.hid (fun h => (szP_in (m := m) (s := s) (left := 1048576) h))
  obtain ⟨z, hz⟩ : ∃ z, szP m s 1048576 = z := ⟨_, rfl⟩
  rw [hz] at HZ ⊢
  clear hz k0 k1
  have g2 := b1.c 0 _ rfl
  have g3 := b1.c 1 _ rfl
  by_cases hzn : z < 0
  ·
    go_wp2_with fail
    go_ret
    exact ⟨rfl, kk⟩
  have ⟨hz1, hz2⟩ := HZ.out (by omega)
  clear HZ
  go_wp2_with fail
  refine (szChances_any wa wn wc _ q z w1 hwn (hq.keep kk) (by omega) (by omega)).mono ?_
  rintro e w2 ⟨_, rfl, rfl, k2⟩
  replace kk := kk.keep k2
  replace b0 := b0.keep k2
  replace b1 := b1.keep k2
  have HY := Lib.hid (fun h => (szC2_in (n := wn) (q := q) (left := z) h))
  obtain ⟨y, hy⟩ : ∃ y, szC2 wn q z = y := ⟨_, rfl⟩
  rw [hy] at HY ⊢
  clear hy k2 g2 g3
  by_cases hyn : y < 0
  ·
    go_wp2_with fail
    go_ret
    exact ⟨rfl, kk⟩
  have ⟨hy1, hy2⟩ := HY.out (by omega)
  clear HY
  obtain ⟨ws, hwl, hws⟩ := hw (by omega)
  subst hwl
  have hM2 : RII No w (.slice ma m.length mc) m := RII.ofRaw hm (by omega) (by omega)
  have hS2 : RII No w (.slice sa s.length sc) s := RII.ofRaw hs (by omega) (by omega)
  have hP : RPr No w (.agg #[.slice ma m.length mc, .slice sa s.length sc]) ⟨m, s⟩ := ⟨_, _, rfl, hM2, hS2⟩
  have hC : RCh No w (.agg #[.slice wa ws.length wc, .slice qa q.length qc]) q ws := ⟨_, _, rfl, hws, RII.ofRaw hq (by omega) (by omega)⟩
  have HP := Lib.hid hP
  have HC := Lib.hid hC
  clear hw hws hP hC hm hs hq hM2 hS2
  obtain ⟨fr, hfr⟩ : ∃ fr, bexV ⟨m, s⟩ st q ws = fr := ⟨_, rfl⟩
  have HF := Lib.hid hfr
  clear hfr
  go_wp2_with fail
  refine wp_region_K (S := fun W => (W.cell? ⟨w.heap.size, 0, none⟩ = some (.slice ma m.length mc) ∧ W.cell? ⟨w.heap.size, 1, none⟩ = some (.slice sa s.length sc)) ∧ W.cell? ⟨w.heap.size + 1, 0, none⟩ = some (.slice wa ws.length wc) ∧ W.cell? ⟨w.heap.size + 1, 1, none⟩ = some (.slice qa q.length qc)) (k := 5) (by kernel_rfl) ?_
  replace kk := kk.keep (drewN0 _)
  replace b0 := b0.keep (drewN0 _)
  replace b1 := b1.keep (drewN0 _)
  generalize w2.drew = W2 at kk b0 b1 ⊢
  have SF : ∀ W, Chg No W2 W → (W.cell? ⟨w.heap.size, 0, none⟩ = some (.slice ma m.length mc) ∧ W.cell? ⟨w.heap.size, 1, none⟩ = some (.slice sa s.length sc)) ∧ W.cell? ⟨w.heap.size + 1, 0, none⟩ = some (.slice wa ws.length wc) ∧ W.cell? ⟨w.heap.size + 1, 1, none⟩ = some (.slice qa q.length qc) :=
    fun W k => ⟨⟨(b0.keep k).c 0 _ rfl, (b0.keep k).c 1 _ rfl⟩, (b1.keep k).c 0 _ rfl, (b1.keep k).c 1 _ rfl⟩
  have hS := SF _ (Chg.refl No W2)
  have kq := Chg.refl No W2
  refine wpAnyK_takeT 0 (.agg #[.slice ma m.length mc, .slice sa s.length sc]) rfl (by kernel_rfl) (fun _ _ _ h => h) hS rfl (by intro w hSw; go_simp) ?_
  simp only [List.getElem_toArray, List.getElem_cons_zero, Act.put, List.setIfInBounds_toArray, List.set_cons_zero, List.set_cons_succ]
  refine wpAnyK_take0 2 (.int .i64 st) rfl (by kernel_rfl) (fun _ _ _ h => h) hS rfl (by intro w; go_simp) ?_
  simp only [List.getElem_toArray, List.getElem_cons_succ, List.getElem_cons_zero, Act.put, List.setIfInBounds_toArray, List.set_cons_zero, List.set_cons_succ]
  refine wpAnyK_takeT 3 (.agg #[.slice wa ws.length wc, .slice qa q.length qc]) rfl (by kernel_rfl) (fun _ _ _ h => h) hS rfl (by intro w hSw; go_simp) ?_
  simp only [List.getElem_toArray, List.getElem_cons_succ, List.getElem_cons_zero, Act.put, List.setIfInBounds_toArray, List.set_cons_zero, List.set_cons_succ]
  have hw1l := b1.lt
  refine wpAnyK_2 1 9 (by kernel_rfl) (wpOpK' rfl rfl ?_) (wpOpK' rfl rfl ?_)
  ·
    intro K hK
    refine ocall (f := 11) (args := #[.agg #[.slice ma m.length mc, .slice sa s.length sc]]) (by go_simp) (toProblem_any _ ⟨m, s⟩ W2 (HP.out.keep kk)) (fun v3 W3 h3 => hK.out _ _ (SF W3 (kq.keep h3.2)) ?_)
    obtain ⟨r3, k3⟩ := h3
    clear hK K
    simp only [List.getElem_toArray, List.getElem_cons_succ, List.getElem_cons_zero, Act.put, List.setIfInBounds_toArray, List.set_cons_zero, List.set_cons_succ]
    replace kk := kk.keep k3
    replace b0 := b0.keep k3
    replace b1 := b1.keep k3
    try replace bG := bG.keep k3
    try replace b2 := b2.keep k3
    try replace b3 := b3.keep k3
    try replace bH := bH.keep k3
    try replace HX := Lib.hid (HX.out.keep k3)
    try replace HY := Lib.hid (HY.out.keep k3)
    replace kq := kq.keep k3
    refine wpAnyK_2 4 9 (by kernel_rfl) (wpOpK' rfl rfl ?_) (wpOpK' rfl rfl ?_)
    ·
      intro K hK
      refine ocall (f := 12) (args := #[.agg #[.slice wa ws.length wc, .slice qa q.length qc]]) (by go_simp) (toChances_any _ q ws W3 (HC.out.keep kk)) (fun v4 W4 h4 => hK.out _ _ (SF W4 (kq.keep h4.2)) ?_)
      obtain ⟨r4, k4⟩ := h4
      clear hK K
      simp only [List.getElem_toArray, List.getElem_cons_succ, List.getElem_cons_zero, Act.put, List.setIfInBounds_toArray, List.set_cons_zero, List.set_cons_succ]
      replace kk := kk.keep k4
      replace b0 := b0.keep k4
      replace b1 := b1.keep k4
      try replace bG := bG.keep k4
      try replace b2 := b2.keep k4
      try replace b3 := b3.keep k4
      try replace bH := bH.keep k4
      try replace HX := Lib.hid (HX.out.keep k4)
      try replace HY := Lib.hid (HY.out.keep k4)
      replace kq := kq.keep k4
      replace r3 := r3.keep k4
      refine wpAnyK_2 5 9 (by kernel_rfl) (wpOpK' rfl rfl ?_) (wpOpK' rfl rfl ?_)
      ·
        intro K hK
        refine ocall (f := 23) (args := #[v3, .int .i64 st, v4]) (by go_simp) (ret2_eq (specBestExpected_any No _ _ ⟨m, s⟩ st q ws W4 r3 r4)) (fun v5 W5 h5 => hK.out _ _ (SF W5 (kq.keep h5.2)) ?_)
        obtain ⟨rfl, k5⟩ := h5
        rw [HF.out]
        clear hK K r3 r4
        simp only [List.getElem_toArray, List.getElem_cons_succ, List.getElem_cons_zero, Act.put, List.setIfInBounds_toArray, List.set_cons_zero, List.set_cons_succ]
        replace kk := kk.keep k5
        replace b0 := b0.keep k5
        replace b1 := b1.keep k5
        try replace bG := bG.keep k5
        try replace b2 := b2.keep k5
        try replace b3 := b3.keep k5
        try replace bH := bH.keep k5
        try replace HX := Lib.hid (HX.out.keep k5)
        try replace HY := Lib.hid (HY.out.keep k5)
        replace kq := kq.keep k5
        replace hS := SF _ kq
        refine wpAnyK_take0 6 (.tuple #[.agg #[.int .i64 fr.num, .int .i64 fr.den], .bool fr.ok]) rfl (by kernel_rfl) (fun _ _ _ h => h) hS rfl (by intro w; go_simp) ?_
        simp only [List.getElem_toArray, List.getElem_cons_succ, List.getElem_cons_zero, Act.put, List.setIfInBounds_toArray, List.set_cons_zero, List.set_cons_succ]
        refine wpAnyK_take0 7 (.agg #[.int .i64 fr.num, .int .i64 fr.den]) rfl (by kernel_rfl) (fun _ _ _ h => h) hS rfl (by intro w; go_simp) ?_
        simp only [List.getElem_toArray, List.getElem_cons_succ, List.getElem_cons_zero, Act.put, List.setIfInBounds_toArray, List.set_cons_zero, List.set_cons_succ]
        refine wpAnyK_take0 8 (.bool fr.ok) rfl (by kernel_rfl) (fun _ _ _ h => h) hS rfl (by intro w; go_simp) ?_
        simp only [List.getElem_toArray, List.getElem_cons_succ, List.getElem_cons_zero, Act.put, List.setIfInBounds_toArray, List.set_cons_zero, List.set_cons_succ]
        have hw1l := b1.lt
        refine wpAnyK_1 9 (by kernel_rfl) (wpOpK' rfl rfl ?_)
        have hwG := b1.lt
        intro K hK
        unfold Oper.wp execOp
        go_simp
        have kal := (Chg.refl No W5).alloc (.cells #[.int .i64 0, .int .i64 0] 46)
        refine hK.out _ _ (SF _ (kq.keep kal)) ?_
        clear hK K
        simp only [List.setIfInBounds_toArray]
        replace kk := kk.keep kal
        replace b0 := b0.keep kal
        replace b1 := b1.keep kal
        try replace bG := bG.keep kal
        try replace b2 := b2.keep kal
        try replace b3 := b3.keep kal
        try replace bH := bH.keep kal
        try replace HX := Lib.hid (HX.out.keep kal)
        try replace HY := Lib.hid (HY.out.keep kal)
        replace kq := kq.keep kal
        have bG := BoxN.new W5 #[.int .i64 0, .int .i64 0] 46
        obtain ⟨G, hG⟩ : ∃ G, W5.heap.size = G := ⟨_, rfl⟩
        rw [hG] at bG hwG ⊢
        try replace r3 := r3.keep kal
        try replace r4 := r4.keep kal
        clear kal hG
        generalize hWO : W5.alloc (.cells #[.int .i64 0, .int .i64 0] 46) = WA at kk kq b0 b1 bG ⊢
        try rw [hWO] at r3
        try rw [hWO] at r4
        clear hWO
        refine wpAnyK_tailL 10 rfl (by kernel_rfl) ?_
        simp only [List.drop_succ_cons, List.drop_zero]
        clear SF hS kq
        have f0 := bG.fr 0
        have f1 := bG.fr 1
        have h0 := bG.c 0 _ rfl
        have h1 := bG.c 1 _ rfl
        have hlG := bG.lt
        replace kk := (kk.setCell (p := ⟨G, 0, none⟩) (fun h => by simp at h; omega) (.int .i64 fr.num)).setCell (p := ⟨G, 1, none⟩) (fun h => by simp at h; omega) (.int .i64 fr.den)
        replace b0 := (b0.far ⟨G, 0, none⟩ (.int .i64 fr.num) (by simp; omega)).far ⟨G, 1, none⟩ (.int .i64 fr.den) (by simp; omega)
        replace b1 := (b1.far ⟨G, 0, none⟩ (.int .i64 fr.num) (by simp; omega)).far ⟨G, 1, none⟩ (.int .i64 fr.den) (by simp; omega)
        replace bG := (bG.set (i := 0) (by simp) (.int .i64 fr.num)).set (i := 1) (by simp) (.int .i64 fr.den)
        have g0 := b0.c 0 _ rfl
        have g1 := b0.c 1 _ rfl
        go_wp2_with fail
        generalize (WA.setCell ⟨G, 0, none⟩ (.int .i64 fr.num)).setCell ⟨G, 1, none⟩ (.int .i64 fr.den) = W6 at kk b0 b1 bG g0 g1 ⊢
        refine (toProblem_any _ ⟨m, s⟩ W6 (HP.out.keep kk)).mono ?_
        rintro e w7 ⟨v7, rfl, r7, k7⟩
        have HX := Lib.hid r7
        obtain ⟨xm, xs, rfl, hxm, hxs⟩ := r7
        obtain ⟨xma, xmc, rfl⟩ := hxm.shape
        obtain ⟨xsa, xsc, rfl⟩ := hxs.shape
        have k8 := k7.alloc (.cells #[.slice xma m.length xmc, .slice xsa s.length xsc] 32)
        replace kk := kk.keep k8
        replace b0 := b0.keep k8
        replace b1 := b1.keep k8
        replace bG := bG.keep k8
        have b2 := BoxN.new w7 #[.slice xma m.length xmc, .slice xsa s.length xsc] 32
        have HX := Lib.hid (HX.out.keep ((Chg.refl No w7).alloc (.cells #[.slice xma m.length xmc, .slice xsa s.length xsc] 32)))
        have g2 := b1.c 0 _ rfl
        have g3 := b1.c 1 _ rfl
        clear g0 g1 k7 k8 hxm hxs f0 f1 h0 h1
        go_wp2_with fail
        clear g2 g3
        obtain ⟨X0, hX0⟩ : ∃ X0, w7.heap.size = X0 := ⟨_, rfl⟩
        rw [hX0] at b2 ⊢
        clear hX0
        generalize w7.alloc (.cells #[.slice xma m.length xmc, .slice xsa s.length xsc] 32) = W8 at kk b0 b1 b2 bG HX ⊢
        refine (toChances_any _ q ws W8 (HC.out.keep kk)).mono ?_
        rintro e w9 ⟨v9, rfl, r9, k9⟩
        have HY := Lib.hid r9
        obtain ⟨xw, xq, rfl, hxw, hxq⟩ := r9
        obtain ⟨xwa, xwc, rfl, _⟩ := hxw
        obtain ⟨xqa, xqc, rfl⟩ := hxq.shape
        have k10 := k9.alloc (.cells #[.slice xwa ws.length xwc, .slice xqa q.length xqc] 34)
        replace kk := kk.keep k10
        replace b0 := b0.keep k10
        replace b1 := b1.keep k10
        replace b2 := b2.keep k10
        replace bG := bG.keep k10
        replace HX := Lib.hid (HX.out.keep k10)
        have b3 := BoxN.new w9 #[.slice xwa ws.length xwc, .slice xqa q.length xqc] 34
        have HY := Lib.hid (HY.out.keep ((Chg.refl No w9).alloc (.cells #[.slice xwa ws.length xwc, .slice xqa q.length xqc] 34)))
        have g0 := b2.c 0 _ rfl
        have g1 := b2.c 1 _ rfl
        have g2 := b3.c 0 _ rfl
        have g3 := b3.c 1 _ rfl
        clear k9 k10 hxq
        go_wp2_with fail
        clear g0 g1 g2 g3
        obtain ⟨X1, hX1⟩ : ∃ X1, w9.heap.size = X1 := ⟨_, rfl⟩
        rw [hX1] at b3 ⊢
        clear hX1
        generalize w9.alloc (.cells #[.slice xwa ws.length xwc, .slice xqa q.length xqc] 34) = W10 at kk b0 b1 b2 b3 bG HX HY ⊢
        refine (implBestExpected_any No _ _ ⟨m, s⟩ st q ws W10 HX.out HY.out).mono ?_
        rintro e w11 ⟨_, _, rfl, rfl, rfl, k11⟩
        rw [HF.out]
        have bH := BoxN.new w11 #[.int .i64 fr.num, .int .i64 fr.den] 46
        have k12 := k11.alloc (.cells #[.int .i64 fr.num, .int .i64 fr.den] 46)
        replace kk := kk.keep k12
        replace b0 := b0.keep k12
        replace b1 := b1.keep k12
        replace b2 := b2.keep k12
        replace b3 := b3.keep k12
        replace bG := bG.keep k12
        replace HX := Lib.hid (HX.out.keep k12)
        replace HY := Lib.hid (HY.out.keep k12)
        have g0 := bG.c 0 _ rfl
        have g1 := bG.c 1 _ rfl
        clear k11 k12
        go_wp2_with fail
        clear g0 g1
        obtain ⟨X2, hX2⟩ : ∃ X2, w11.heap.size = X2 := ⟨_, rfl⟩
        rw [hX2] at bH ⊢
        clear hX2
        generalize w11.alloc (.cells #[.int .i64 fr.num, .int .i64 fr.den] 46) = W12 at kk b0 b1 b2 b3 bG bH HX HY ⊢
        refine (eqFracP_same _ _ _).mono ?_
        rintro e w13 ⟨_, rfl, rfl, k13⟩
        replace kk := kk.keep k13
        replace b0 := b0.keep k13
        replace b1 := b1.keep k13
        try replace bG := bG.keep k13
        try replace b2 := b2.keep k13
        try replace b3 := b3.keep k13
        try replace bH := bH.keep k13
        try replace HX := Lib.hid (HX.out.keep k13)
        try replace HY := Lib.hid (HY.out.keep k13)
        clear k13
        go_wp2_with fail
        refine wp_region_K (S := fun W => (W.cell? ⟨X0, 0, none⟩ = some (.slice xma m.length xmc) ∧ W.cell? ⟨X0, 1, none⟩ = some (.slice xsa s.length xsc)) ∧ W.cell? ⟨w.heap.size, 0, none⟩ = some (.slice ma m.length mc) ∧ W.cell? ⟨w.heap.size, 1, none⟩ = some (.slice sa s.length sc)) (k := 3) (by kernel_rfl) ?_
        replace kk := kk.keep (drewN0 _)
        replace b0 := b0.keep (drewN0 _)
        replace b1 := b1.keep (drewN0 _)
        try replace bG := bG.keep (drewN0 _)
        try replace b2 := b2.keep (drewN0 _)
        try replace b3 := b3.keep (drewN0 _)
        try replace bH := bH.keep (drewN0 _)
        try replace HX := Lib.hid (HX.out.keep (drewN0 _))
        try replace HY := Lib.hid (HY.out.keep (drewN0 _))
        generalize w13.drew = W13 at kk b0 b1 b2 b3 HX HY ⊢
        have SF : ∀ W, Chg No W13 W → (W.cell? ⟨X0, 0, none⟩ = some (.slice xma m.length xmc) ∧ W.cell? ⟨X0, 1, none⟩ = some (.slice xsa s.length xsc)) ∧ W.cell? ⟨w.heap.size, 0, none⟩ = some (.slice ma m.length mc) ∧ W.cell? ⟨w.heap.size, 1, none⟩ = some (.slice sa s.length sc) :=
          fun W k => ⟨⟨(b2.keep k).c 0 _ rfl, (b2.keep k).c 1 _ rfl⟩, (b0.keep k).c 0 _ rfl, (b0.keep k).c 1 _ rfl⟩
        have hS := SF _ (Chg.refl No W13)
        refine wpAnyK_takeT 0 (.agg #[.slice xma m.length xmc, .slice xsa s.length xsc]) rfl (by kernel_rfl) (fun _ _ _ h => h) hS rfl (by intro w hSw; go_simp) ?_
        simp only [List.getElem_toArray, List.getElem_cons_zero, Act.put, List.setIfInBounds_toArray, List.set_cons_zero, List.set_cons_succ]
        refine wpAnyK_takeT 1 (.agg #[.slice ma m.length mc, .slice sa s.length sc]) rfl (by kernel_rfl) (fun _ _ _ h => h) hS rfl (by intro w hSw; go_simp) ?_
        simp only [List.getElem_toArray, List.getElem_cons_succ, List.getElem_cons_zero, Act.put, List.setIfInBounds_toArray, List.set_cons_zero, List.set_cons_succ]
        refine wpAnyK_1 2 (by kernel_rfl) (wpOpK' rfl rfl ?_)
        intro K hK
        refine ocall (f := 11) (args := #[.agg #[.slice ma m.length mc, .slice sa s.length sc]]) (by go_simp) (toProblem_any _ ⟨m, s⟩ W13 (HP.out.keep kk)) (fun v14 w14 h14 => hK.out _ _ (SF w14 h14.2) ?_)
        obtain ⟨r14, k14⟩ := h14
        clear hK K
        simp only [List.getElem_toArray, List.getElem_cons_succ, List.getElem_cons_zero, Act.put, List.setIfInBounds_toArray, List.set_cons_zero, List.set_cons_succ]
        clear SF hS
        replace kk := kk.keep k14
        replace b0 := b0.keep k14
        replace b1 := b1.keep k14
        try replace bG := bG.keep k14
        try replace b2 := b2.keep k14
        try replace b3 := b3.keep k14
        try replace bH := bH.keep k14
        try replace HX := Lib.hid (HX.out.keep k14)
        try replace HY := Lib.hid (HY.out.keep k14)
        clear k14
        refine wpAnyK_tail 3 rfl (by kernel_rfl) ?_
        simp only [List.drop_succ_cons, List.drop_zero]
        go_wp2_with fail
        refine (eqProblem_same _ _ ⟨m, s⟩ w14 HX.out r14).mono ?_
        rintro e w15 ⟨_, rfl, rfl, k15⟩
        replace kk := kk.keep k15
        replace b0 := b0.keep k15
        replace b1 := b1.keep k15
        try replace bG := bG.keep k15
        try replace b2 := b2.keep k15
        try replace b3 := b3.keep k15
        try replace bH := bH.keep k15
        try replace HX := Lib.hid (HX.out.keep k15)
        try replace HY := Lib.hid (HY.out.keep k15)
        clear k15
        go_wp2_with fail
        refine wp_region_K (S := fun W => (W.cell? ⟨X1, 0, none⟩ = some (.slice xwa ws.length xwc) ∧ W.cell? ⟨X1, 1, none⟩ = some (.slice xqa q.length xqc)) ∧ W.cell? ⟨w.heap.size + 1, 0, none⟩ = some (.slice wa ws.length wc) ∧ W.cell? ⟨w.heap.size + 1, 1, none⟩ = some (.slice qa q.length qc)) (k := 3) (by kernel_rfl) ?_
        replace kk := kk.keep (drewN0 _)
        replace b0 := b0.keep (drewN0 _)
        replace b1 := b1.keep (drewN0 _)
        try replace bG := bG.keep (drewN0 _)
        try replace b2 := b2.keep (drewN0 _)
        try replace b3 := b3.keep (drewN0 _)
        try replace bH := bH.keep (drewN0 _)
        try replace HX := Lib.hid (HX.out.keep (drewN0 _))
        try replace HY := Lib.hid (HY.out.keep (drewN0 _))
        generalize w15.drew = W16 at kk b0 b1 b2 b3 HX HY ⊢
        have SF : ∀ W, Chg No W16 W → (W.cell? ⟨X1, 0, none⟩ = some (.slice xwa ws.length xwc) ∧ W.cell? ⟨X1, 1, none⟩ = some (.slice xqa q.length xqc)) ∧ W.cell? ⟨w.heap.size + 1, 0, none⟩ = some (.slice wa ws.length wc) ∧ W.cell? ⟨w.heap.size + 1, 1, none⟩ = some (.slice qa q.length qc) :=
          fun W k => ⟨⟨(b3.keep k).c 0 _ rfl, (b3.keep k).c 1 _ rfl⟩, (b1.keep k).c 0 _ rfl, (b1.keep k).c 1 _ rfl⟩
        have hS := SF _ (Chg.refl No W16)
        refine wpAnyK_takeT 0 (.agg #[.slice xwa ws.length xwc, .slice xqa q.length xqc]) rfl (by kernel_rfl) (fun _ _ _ h => h) hS rfl (by intro w hSw; go_simp) ?_
        simp only [List.getElem_toArray, List.getElem_cons_zero, Act.put, List.setIfInBounds_toArray, List.set_cons_zero, List.set_cons_succ]
        refine wpAnyK_takeT 1 (.agg #[.slice wa ws.length wc, .slice qa q.length qc]) rfl (by kernel_rfl) (fun _ _ _ h => h) hS rfl (by intro w hSw; go_simp) ?_
        simp only [List.getElem_toArray, List.getElem_cons_succ, List.getElem_cons_zero, Act.put, List.setIfInBounds_toArray, List.set_cons_zero, List.set_cons_succ]
        refine wpAnyK_1 2 (by kernel_rfl) (wpOpK' rfl rfl ?_)
        intro K hK
        refine ocall (f := 12) (args := #[.agg #[.slice wa ws.length wc, .slice qa q.length qc]]) (by go_simp) (toChances_any _ q ws W16 (HC.out.keep kk)) (fun v17 w17 h17 => hK.out _ _ (SF w17 h17.2) ?_)
        obtain ⟨r17, k17⟩ := h17
        clear hK K
        simp only [List.getElem_toArray, List.getElem_cons_succ, List.getElem_cons_zero, Act.put, List.setIfInBounds_toArray, List.set_cons_zero, List.set_cons_succ]
        clear SF hS
        replace kk := kk.keep k17
        replace b0 := b0.keep k17
        replace b1 := b1.keep k17
        try replace bG := bG.keep k17
        try replace b2 := b2.keep k17
        try replace b3 := b3.keep k17
        try replace bH := bH.keep k17
        try replace HX := Lib.hid (HX.out.keep k17)
        try replace HY := Lib.hid (HY.out.keep k17)
        clear k17
        refine wpAnyK_tail 3 rfl (by kernel_rfl) ?_
        simp only [List.drop_succ_cons, List.drop_zero]
        go_wp2_with fail
        refine (eqChances_same _ _ q ws w17 HY.out r17).mono ?_
        rintro e w18 ⟨_, rfl, rfl, k18⟩
        replace kk := kk.keep k18
        replace b0 := b0.keep k18
        replace b1 := b1.keep k18
        try replace bG := bG.keep k18
        try replace b2 := b2.keep k18
        try replace b3 := b3.keep k18
        try replace bH := bH.keep k18
        try replace HX := Lib.hid (HX.out.keep k18)
        try replace HY := Lib.hid (HY.out.keep k18)
        clear k18
        go_wp2_with fail
        go_ret
        exact ⟨rfl, kk⟩
      ·
        have hw1l := b1.lt
        have hwG := b1.lt
        intro K hK
        unfold Oper.wp execOp
        go_simp
        have kal := (Chg.refl No W4).alloc (.cells #[.int .i64 0, .int .i64 0] 46)
        refine hK.out _ _ (SF _ (kq.keep kal)) ?_
        clear hK K
        simp only [List.setIfInBounds_toArray]
        replace kk := kk.keep kal
        replace b0 := b0.keep kal
        replace b1 := b1.keep kal
        try replace bG := bG.keep kal
        try replace b2 := b2.keep kal
        try replace b3 := b3.keep kal
        try replace bH := bH.keep kal
        try replace HX := Lib.hid (HX.out.keep kal)
        try replace HY := Lib.hid (HY.out.keep kal)
        replace kq := kq.keep kal
        have bG := BoxN.new W4 #[.int .i64 0, .int .i64 0] 46
        obtain ⟨G, hG⟩ : ∃ G, W4.heap.size = G := ⟨_, rfl⟩
        rw [hG] at bG hwG ⊢
        try replace r3 := r3.keep kal
        try replace r4 := r4.keep kal
        clear kal hG
        generalize hWO : W4.alloc (.cells #[.int .i64 0, .int .i64 0] 46) = WA at kk kq b0 b1 bG ⊢
        try rw [hWO] at r3
        try rw [hWO] at r4
        clear hWO
        refine wpAnyK_1 5 (by kernel_rfl) (wpOpK' rfl rfl ?_)
        intro K hK
        refine ocall (f := 23) (args := #[v3, .int .i64 st, v4]) (by go_simp) (ret2_eq (specBestExpected_any No _ _ ⟨m, s⟩ st q ws WA r3 r4)) (fun v5 W5 h5 => hK.out _ _ (SF W5 (kq.keep h5.2)) ?_)
        obtain ⟨rfl, k5⟩ := h5
        rw [HF.out]
        clear hK K r3 r4
        simp only [List.getElem_toArray, List.getElem_cons_succ, List.getElem_cons_zero, Act.put, List.setIfInBounds_toArray, List.set_cons_zero, List.set_cons_succ]
        replace kk := kk.keep k5
        replace b0 := b0.keep k5
        replace b1 := b1.keep k5
        try replace bG := bG.keep k5
        try replace b2 := b2.keep k5
        try replace b3 := b3.keep k5
        try replace bH := bH.keep k5
        try replace HX := Lib.hid (HX.out.keep k5)
        try replace HY := Lib.hid (HY.out.keep k5)
        replace kq := kq.keep k5
        replace hS := SF _ kq
        refine wpAnyK_take0 6 (.tuple #[.agg #[.int .i64 fr.num, .int .i64 fr.den], .bool fr.ok]) rfl (by kernel_rfl) (fun _ _ _ h => h) hS rfl (by intro w; go_simp) ?_
        simp only [List.getElem_toArray, List.getElem_cons_succ, List.getElem_cons_zero, Act.put, List.setIfInBounds_toArray, List.set_cons_zero, List.set_cons_succ]
        refine wpAnyK_take0 7 (.agg #[.int .i64 fr.num, .int .i64 fr.den]) rfl (by kernel_rfl) (fun _ _ _ h => h) hS rfl (by intro w; go_simp) ?_
        simp only [List.getElem_toArray, List.getElem_cons_succ, List.getElem_cons_zero, Act.put, List.setIfInBounds_toArray, List.set_cons_zero, List.set_cons_succ]
        refine wpAnyK_take0 8 (.bool fr.ok) rfl (by kernel_rfl) (fun _ _ _ h => h) hS rfl (by intro w; go_simp) ?_
        simp only [List.getElem_toArray, List.getElem_cons_succ, List.getElem_cons_zero, Act.put, List.setIfInBounds_toArray, List.set_cons_zero, List.set_cons_succ]
        refine wpAnyK_tailL 10 rfl (by kernel_rfl) ?_
        simp only [List.drop_succ_cons, List.drop_zero]
        clear SF hS kq
        have f0 := bG.fr 0
        have f1 := bG.fr 1
        have h0 := bG.c 0 _ rfl
        have h1 := bG.c 1 _ rfl
        have hlG := bG.lt
        replace kk := (kk.setCell (p := ⟨G, 0, none⟩) (fun h => by simp at h; omega) (.int .i64 fr.num)).setCell (p := ⟨G, 1, none⟩) (fun h => by simp at h; omega) (.int .i64 fr.den)
        replace b0 := (b0.far ⟨G, 0, none⟩ (.int .i64 fr.num) (by simp; omega)).far ⟨G, 1, none⟩ (.int .i64 fr.den) (by simp; omega)
        replace b1 := (b1.far ⟨G, 0, none⟩ (.int .i64 fr.num) (by simp; omega)).far ⟨G, 1, none⟩ (.int .i64 fr.den) (by simp; omega)
        replace bG := (bG.set (i := 0) (by simp) (.int .i64 fr.num)).set (i := 1) (by simp) (.int .i64 fr.den)
        have g0 := b0.c 0 _ rfl
        have g1 := b0.c 1 _ rfl
        go_wp2_with fail
        generalize (W5.setCell ⟨G, 0, none⟩ (.int .i64 fr.num)).setCell ⟨G, 1, none⟩ (.int .i64 fr.den) = W6 at kk b0 b1 bG g0 g1 ⊢
        refine (toProblem_any _ ⟨m, s⟩ W6 (HP.out.keep kk)).mono ?_
        rintro e w7 ⟨v7, rfl, r7, k7⟩
        have HX := Lib.hid r7
        obtain ⟨xm, xs, rfl, hxm, hxs⟩ := r7
        obtain ⟨xma, xmc, rfl⟩ := hxm.shape
        obtain ⟨xsa, xsc, rfl⟩ := hxs.shape
        have k8 := k7.alloc (.cells #[.slice xma m.length xmc, .slice xsa s.length xsc] 32)
        replace kk := kk.keep k8
        replace b0 := b0.keep k8
        replace b1 := b1.keep k8
        replace bG := bG.keep k8
        have b2 := BoxN.new w7 #[.slice xma m.length xmc, .slice xsa s.length xsc] 32
        have HX := Lib.hid (HX.out.keep ((Chg.refl No w7).alloc (.cells #[.slice xma m.length xmc, .slice xsa s.length xsc] 32)))
        have g2 := b1.c 0 _ rfl
        have g3 := b1.c 1 _ rfl
        clear g0 g1 k7 k8 hxm hxs f0 f1 h0 h1
        go_wp2_with fail
        clear g2 g3
        obtain ⟨X0, hX0⟩ : ∃ X0, w7.heap.size = X0 := ⟨_, rfl⟩
        rw [hX0] at b2 ⊢
        clear hX0
        generalize w7.alloc (.cells #[.slice xma m.length xmc, .slice xsa s.length xsc] 32) = W8 at kk b0 b1 b2 bG HX ⊢
        refine (toChances_any _ q ws W8 (HC.out.keep kk)).mono ?_
        rintro e w9 ⟨v9, rfl, r9, k9⟩
        have HY := Lib.hid r9
        obtain ⟨xw, xq, rfl, hxw, hxq⟩ := r9
        obtain ⟨xwa, xwc, rfl, _⟩ := hxw
        obtain ⟨xqa, xqc, rfl⟩ := hxq.shape
        have k10 := k9.alloc (.cells #[.slice xwa ws.length xwc, .slice xqa q.length xqc] 34)
        replace kk := kk.keep k10
        replace b0 := b0.keep k10
        replace b1 := b1.keep k10
        replace b2 := b2.keep k10
        replace bG := bG.keep k10
        replace HX := Lib.hid (HX.out.keep k10)
        have b3 := BoxN.new w9 #[.slice xwa ws.length xwc, .slice xqa q.length xqc] 34
        have HY := Lib.hid (HY.out.keep ((Chg.refl No w9).alloc (.cells #[.slice xwa ws.length xwc, .slice xqa q.length xqc] 34)))
        have g0 := b2.c 0 _ rfl
        have g1 := b2.c 1 _ rfl
        have g2 := b3.c 0 _ rfl
        have g3 := b3.c 1 _ rfl
        clear k9 k10 hxq
        go_wp2_with fail
        clear g0 g1 g2 g3
        obtain ⟨X1, hX1⟩ : ∃ X1, w9.heap.size = X1 := ⟨_, rfl⟩
        rw [hX1] at b3 ⊢
        clear hX1
        generalize w9.alloc (.cells #[.slice xwa ws.length xwc, .slice xqa q.length xqc] 34) = W10 at kk b0 b1 b2 b3 bG HX HY ⊢
        refine (implBestExpected_any No _ _ ⟨m, s⟩ st q ws W10 HX.out HY.out).mono ?_
        rintro e w11 ⟨_, _, rfl, rfl, rfl, k11⟩
        rw [HF.out]
        have bH := BoxN.new w11 #[.int .i64 fr.num, .int .i64 fr.den] 46
        have k12 := k11.alloc (.cells #[.int .i64 fr.num, .int .i64 fr.den] 46)
        replace kk := kk.keep k12
        replace b0 := b0.keep k12
        replace b1 := b1.keep k12
        replace b2 := b2.keep k12
        replace b3 := b3.keep k12
        replace bG := bG.keep k12
        replace HX := Lib.hid (HX.out.keep k12)
        replace HY := Lib.hid (HY.out.keep k12)
        have g0 := bG.c 0 _ rfl
        have g1 := bG.c 1 _ rfl
        clear k11 k12
        go_wp2_with fail
        clear g0 g1
        obtain ⟨X2, hX2⟩ : ∃ X2, w11.heap.size = X2 := ⟨_, rfl⟩
        rw [hX2] at bH ⊢
        clear hX2
        generalize w11.alloc (.cells #[.int .i64 fr.num, .int .i64 fr.den] 46) = W12 at kk b0 b1 b2 b3 bG bH HX HY ⊢
        refine (eqFracP_same _ _ _).mono ?_
        rintro e w13 ⟨_, rfl, rfl, k13⟩
        replace kk := kk.keep k13
        replace b0 := b0.keep k13
        replace b1 := b1.keep k13
        try replace bG := bG.keep k13
        try replace b2 := b2.keep k13
        try replace b3 := b3.keep k13
        try replace bH := bH.keep k13
        try replace HX := Lib.hid (HX.out.keep k13)
        try replace HY := Lib.hid (HY.out.keep k13)
        clear k13
        go_wp2_with fail
        refine wp_region_K (S := fun W => (W.cell? ⟨X0, 0, none⟩ = some (.slice xma m.length xmc) ∧ W.cell? ⟨X0, 1, none⟩ = some (.slice xsa s.length xsc)) ∧ W.cell? ⟨w.heap.size, 0, none⟩ = some (.slice ma m.length mc) ∧ W.cell? ⟨w.heap.size, 1, none⟩ = some (.slice sa s.length sc)) (k := 3) (by kernel_rfl) ?_
        replace kk := kk.keep (drewN0 _)
        replace b0 := b0.keep (drewN0 _)
        replace b1 := b1.keep (drewN0 _)
        try replace bG := bG.keep (drewN0 _)
        try replace b2 := b2.keep (drewN0 _)
        try replace b3 := b3.keep (drewN0 _)
        try replace bH := bH.keep (drewN0 _)
        try replace HX := Lib.hid (HX.out.keep (drewN0 _))
        try replace HY := Lib.hid (HY.out.keep (drewN0 _))
        generalize w13.drew = W13 at kk b0 b1 b2 b3 HX HY ⊢
        have SF : ∀ W, Chg No W13 W → (W.cell? ⟨X0, 0, none⟩ = some (.slice xma m.length xmc) ∧ W.cell? ⟨X0, 1, none⟩ = some (.slice xsa s.length xsc)) ∧ W.cell? ⟨w.heap.size, 0, none⟩ = some (.slice ma m.length mc) ∧ W.cell? ⟨w.heap.size, 1, none⟩ = some (.slice sa s.length sc) :=
          fun W k => ⟨⟨(b2.keep k).c 0 _ rfl, (b2.keep k).c 1 _ rfl⟩, (b0.keep k).c 0 _ rfl, (b0.keep k).c 1 _ rfl⟩
        have hS := SF _ (Chg.refl No W13)
        refine wpAnyK_takeT 0 (.agg #[.slice xma m.length xmc, .slice xsa s.length xsc]) rfl (by kernel_rfl) (fun _ _ _ h => h) hS rfl (by intro w hSw; go_simp) ?_
        simp only [List.getElem_toArray, List.getElem_cons_zero, Act.put, List.setIfInBounds_toArray, List.set_cons_zero, List.set_cons_succ]
        refine wpAnyK_takeT 1 (.agg #[.slice ma m.length mc, .slice sa s.length sc]) rfl (by kernel_rfl) (fun _ _ _ h => h) hS rfl (by intro w hSw; go_simp) ?_
        simp only [List.getElem_toArray, List.getElem_cons_succ, List.getElem_cons_zero, Act.put, List.setIfInBounds_toArray, List.set_cons_zero, List.set_cons_succ]
        refine wpAnyK_1 2 (by kernel_rfl) (wpOpK' rfl rfl ?_)
        intro K hK
        refine ocall (f := 11) (args := #[.agg #[.slice ma m.length mc, .slice sa s.length sc]]) (by go_simp) (toProblem_any _ ⟨m, s⟩ W13 (HP.out.keep kk)) (fun v14 w14 h14 => hK.out _ _ (SF w14 h14.2) ?_)
        obtain ⟨r14, k14⟩ := h14
        clear hK K
        simp only [List.getElem_toArray, List.getElem_cons_succ, List.getElem_cons_zero, Act.put, List.setIfInBounds_toArray, List.set_cons_zero, List.set_cons_succ]
        clear SF hS
        replace kk := kk.keep k14
        replace b0 := b0.keep k14
        replace b1 := b1.keep k14
        try replace bG := bG.keep k14
        try replace b2 := b2.keep k14
        try replace b3 := b3.keep k14
        try replace bH := bH.keep k14
        try replace HX := Lib.hid (HX.out.keep k14)
        try replace HY := Lib.hid (HY.out.keep k14)
        clear k14
        refine wpAnyK_tail 3 rfl (by kernel_rfl) ?_
        simp only [List.drop_succ_cons, List.drop_zero]
        go_wp2_with fail
        refine (eqProblem_same _ _ ⟨m, s⟩ w14 HX.out r14).mono ?_
        rintro e w15 ⟨_, rfl, rfl, k15⟩
        replace kk := kk.keep k15
        replace b0 := b0.keep k15
        replace b1 := b1.keep k15
        try replace bG := bG.keep k15
        try replace b2 := b2.keep k15
        try replace b3 := b3.keep k15
        try replace bH := bH.keep k15
        try replace HX := Lib.hid (HX.out.keep k15)
        try replace HY := Lib.hid (HY.out.keep k15)
        clear k15
        go_wp2_with fail
        refine wp_region_K (S := fun W => (W.cell? ⟨X1, 0, none⟩ = some (.slice xwa ws.length xwc) ∧ W.cell? ⟨X1, 1, none⟩ = some (.slice xqa q.length xqc)) ∧ W.cell? ⟨w.heap.size + 1, 0, none⟩ = some (.slice wa ws.length wc) ∧ W.cell? ⟨w.heap.size + 1, 1, none⟩ = some (.slice qa q.length qc)) (k := 3) (by kernel_rfl) ?_
        replace kk := kk.keep (drewN0 _)
        replace b0 := b0.keep (drewN0 _)
        replace b1 := b1.keep (drewN0 _)
        try replace bG := bG.keep (drewN0 _)
        try replace b2 := b2.keep (drewN0 _)
        try replace b3 := b3.keep (drewN0 _)
        try replace bH := bH.keep (drewN0 _)
        try replace HX := Lib.hid (HX.out.keep (drewN0 _))
        try replace HY := Lib.hid (HY.out.keep (drewN0 _))
        generalize w15.drew = W16 at kk b0 b1 b2 b3 HX HY ⊢
        have SF : ∀ W, Chg No W16 W → (W.cell? ⟨X1, 0, none⟩ = some (.slice xwa ws.length xwc) ∧ W.cell? ⟨X1, 1, none⟩ = some (.slice xqa q.length xqc)) ∧ W.cell? ⟨w.heap.size + 1, 0, none⟩ = some (.slice wa ws.length wc) ∧ W.cell? ⟨w.heap.size + 1, 1, none⟩ = some (.slice qa q.length qc) :=
          fun W k => ⟨⟨(b3.keep k).c 0 _ rfl, (b3.keep k).c 1 _ rfl⟩, (b1.keep k).c 0 _ rfl, (b1.keep k).c 1 _ rfl⟩
        have hS := SF _ (Chg.refl No W16)
        refine wpAnyK_takeT 0 (.agg #[.slice xwa ws.length xwc, .slice xqa q.length xqc]) rfl (by kernel_rfl) (fun _ _ _ h => h) hS rfl (by intro w hSw; go_simp) ?_
        simp only [List.getElem_toArray, List.getElem_cons_zero, Act.put, List.setIfInBounds_toArray, List.set_cons_zero, List.set_cons_succ]
        refine wpAnyK_takeT 1 (.agg #[.slice wa ws.length wc, .slice qa q.length qc]) rfl (by kernel_rfl) (fun _ _ _ h => h) hS rfl (by intro w hSw; go_simp) ?_
        simp only [List.getElem_toArray, List.getElem_cons_succ, List.getElem_cons_zero, Act.put, List.setIfInBounds_toArray, List.set_cons_zero, List.set_cons_succ]
        refine wpAnyK_1 2 (by kernel_rfl) (wpOpK' rfl rfl ?_)
        intro K hK
        refine ocall (f := 12) (args := #[.agg #[.slice wa ws.length wc, .slice qa q.length qc]]) (by go_simp) (toChances_any _ q ws W16 (HC.out.keep kk)) (fun v17 w17 h17 => hK.out _ _ (SF w17 h17.2) ?_)
        obtain ⟨r17, k17⟩ := h17
        clear hK K
        simp only [List.getElem_toArray, List.getElem_cons_succ, List.getElem_cons_zero, Act.put, List.setIfInBounds_toArray, List.set_cons_zero, List.set_cons_succ]
        clear SF hS
        replace kk := kk.keep k17
        replace b0 := b0.keep k17
        replace b1 := b1.keep k17
        try replace bG := bG.keep k17
        try replace b2 := b2.keep k17
        try replace b3 := b3.keep k17
        try replace bH := bH.keep k17
        try replace HX := Lib.hid (HX.out.keep k17)
        try replace HY := Lib.hid (HY.out.keep k17)
        clear k17
        refine wpAnyK_tail 3 rfl (by kernel_rfl) ?_
        simp only [List.drop_succ_cons, List.drop_zero]
        go_wp2_with fail
        refine (eqChances_same _ _ q ws w17 HY.out r17).mono ?_
        rintro e w18 ⟨_, rfl, rfl, k18⟩
        replace kk := kk.keep k18
        replace b0 := b0.keep k18
        replace b1 := b1.keep k18
        try replace bG := bG.keep k18
        try replace b2 := b2.keep k18
        try replace b3 := b3.keep k18
        try replace bH := bH.keep k18
        try replace HX := Lib.hid (HX.out.keep k18)
        try replace HY := Lib.hid (HY.out.keep k18)
        clear k18
        go_wp2_with fail
        go_ret
        exact ⟨rfl, kk⟩
    ·
      have hw1l := b1.lt
      have hwG := b1.lt
      intro K hK
      unfold Oper.wp execOp
      go_simp
      have kal := (Chg.refl No W3).alloc (.cells #[.int .i64 0, .int .i64 0] 46)
      refine hK.out _ _ (SF _ (kq.keep kal)) ?_
      clear hK K
      simp only [List.setIfInBounds_toArray]
      replace kk := kk.keep kal
      replace b0 := b0.keep kal
      replace b1 := b1.keep kal
      try replace bG := bG.keep kal
      try replace b2 := b2.keep kal
      try replace b3 := b3.keep kal
      try replace bH := bH.keep kal
      try replace HX := Lib.hid (HX.out.keep kal)
      try replace HY := Lib.hid (HY.out.keep kal)
      replace kq := kq.keep kal
      have bG := BoxN.new W3 #[.int .i64 0, .int .i64 0] 46
      obtain ⟨G, hG⟩ : ∃ G, W3.heap.size = G := ⟨_, rfl⟩
      rw [hG] at bG hwG ⊢
      try replace r3 := r3.keep kal
      try replace r4 := r4.keep kal
      clear kal hG
      generalize hWO : W3.alloc (.cells #[.int .i64 0, .int .i64 0] 46) = WA at kk kq b0 b1 bG ⊢
      try rw [hWO] at r3
      try rw [hWO] at r4
      clear hWO
      refine wpAnyK_1 4 (by kernel_rfl) (wpOpK' rfl rfl ?_)
      intro K hK
      refine ocall (f := 12) (args := #[.agg #[.slice wa ws.length wc, .slice qa q.length qc]]) (by go_simp) (toChances_any _ q ws WA (HC.out.keep kk)) (fun v4 W4 h4 => hK.out _ _ (SF W4 (kq.keep h4.2)) ?_)
      obtain ⟨r4, k4⟩ := h4
      clear hK K
      simp only [List.getElem_toArray, List.getElem_cons_succ, List.getElem_cons_zero, Act.put, List.setIfInBounds_toArray, List.set_cons_zero, List.set_cons_succ]
      replace kk := kk.keep k4
      replace b0 := b0.keep k4
      replace b1 := b1.keep k4
      try replace bG := bG.keep k4
      try replace b2 := b2.keep k4
      try replace b3 := b3.keep k4
      try replace bH := bH.keep k4
      try replace HX := Lib.hid (HX.out.keep k4)
      try replace HY := Lib.hid (HY.out.keep k4)
      replace kq := kq.keep k4
      replace r3 := r3.keep k4
      refine wpAnyK_1 5 (by kernel_rfl) (wpOpK' rfl rfl ?_)
      intro K hK
      refine ocall (f := 23) (args := #[v3, .int .i64 st, v4]) (by go_simp) (ret2_eq (specBestExpected_any No _ _ ⟨m, s⟩ st q ws W4 r3 r4)) (fun v5 W5 h5 => hK.out _ _ (SF W5 (kq.keep h5.2)) ?_)
      obtain ⟨rfl, k5⟩ := h5
      rw [HF.out]
      clear hK K r3 r4
      simp only [List.getElem_toArray, List.getElem_cons_succ, List.getElem_cons_zero, Act.put, List.setIfInBounds_toArray, List.set_cons_zero, List.set_cons_succ]
      replace kk := kk.keep k5
      replace b0 := b0.keep k5
      replace b1 := b1.keep k5
      try replace bG := bG.keep k5
      try replace b2 := b2.keep k5
      try replace b3 := b3.keep k5
      try replace bH := bH.keep k5
      try replace HX := Lib.hid (HX.out.keep k5)
      try replace HY := Lib.hid (HY.out.keep k5)
      replace kq := kq.keep k5
      replace hS := SF _ kq
      refine wpAnyK_take0 6 (.tuple #[.agg #[.int .i64 fr.num, .int .i64 fr.den], .bool fr.ok]) rfl (by kernel_rfl) (fun _ _ _ h => h) hS rfl (by intro w; go_simp) ?_
      simp only [List.getElem_toArray, List.getElem_cons_succ, List.getElem_cons_zero, Act.put, List.setIfInBounds_toArray, List.set_cons_zero, List.set_cons_succ]
      refine wpAnyK_take0 7 (.agg #[.int .i64 fr.num, .int .i64 fr.den]) rfl (by kernel_rfl) (fun _ _ _ h => h) hS rfl (by intro w; go_simp) ?_
      simp only [List.getElem_toArray, List.getElem_cons_succ, List.getElem_cons_zero, Act.put, List.setIfInBounds_toArray, List.set_cons_zero, List.set_cons_succ]
      refine wpAnyK_take0 8 (.bool fr.ok) rfl (by kernel_rfl) (fun _ _ _ h => h) hS rfl (by intro w; go_simp) ?_
      simp only [List.getElem_toArray, List.getElem_cons_succ, List.getElem_cons_zero, Act.put, List.setIfInBounds_toArray, List.set_cons_zero, List.set_cons_succ]
      refine wpAnyK_tailL 10 rfl (by kernel_rfl) ?_
      simp only [List.drop_succ_cons, List.drop_zero]
      clear SF hS kq
      have f0 := bG.fr 0
      have f1 := bG.fr 1
      have h0 := bG.c 0 _ rfl
      have h1 := bG.c 1 _ rfl
      have hlG := bG.lt
      replace kk := (kk.setCell (p := ⟨G, 0, none⟩) (fun h => by simp at h; omega) (.int .i64 fr.num)).setCell (p := ⟨G, 1, none⟩) (fun h => by simp at h; omega) (.int .i64 fr.den)
      replace b0 := (b0.far ⟨G, 0, none⟩ (.int .i64 fr.num) (by simp; omega)).far ⟨G, 1, none⟩ (.int .i64 fr.den) (by simp; omega)
      replace b1 := (b1.far ⟨G, 0, none⟩ (.int .i64 fr.num) (by simp; omega)).far ⟨G, 1, none⟩ (.int .i64 fr.den) (by simp; omega)
      replace bG := (bG.set (i := 0) (by simp) (.int .i64 fr.num)).set (i := 1) (by simp) (.int .i64 fr.den)
      have g0 := b0.c 0 _ rfl
      have g1 := b0.c 1 _ rfl
      go_wp2_with fail
      generalize (W5.setCell ⟨G, 0, none⟩ (.int .i64 fr.num)).setCell ⟨G, 1, none⟩ (.int .i64 fr.den) = W6 at kk b0 b1 bG g0 g1 ⊢
      refine (toProblem_any _ ⟨m, s⟩ W6 (HP.out.keep kk)).mono ?_
      rintro e w7 ⟨v7, rfl, r7, k7⟩
      have HX := Lib.hid r7
      obtain ⟨xm, xs, rfl, hxm, hxs⟩ := r7
      obtain ⟨xma, xmc, rfl⟩ := hxm.shape
      obtain ⟨xsa, xsc, rfl⟩ := hxs.shape
      have k8 := k7.alloc (.cells #[.slice xma m.length xmc, .slice xsa s.length xsc] 32)
      replace kk := kk.keep k8
      replace b0 := b0.keep k8
      replace b1 := b1.keep k8
      replace bG := bG.keep k8
      have b2 := BoxN.new w7 #[.slice xma m.length xmc, .slice xsa s.length xsc] 32
      have HX := Lib.hid (HX.out.keep ((Chg.refl No w7).alloc (.cells #[.slice xma m.length xmc, .slice xsa s.length xsc] 32)))
      have g2 := b1.c 0 _ rfl
      have g3 := b1.c 1 _ rfl
      clear g0 g1 k7 k8 hxm hxs f0 f1 h0 h1
      go_wp2_with fail
      clear g2 g3
      obtain ⟨X0, hX0⟩ : ∃ X0, w7.heap.size = X0 := ⟨_, rfl⟩
      rw [hX0] at b2 ⊢
      clear hX0
      generalize w7.alloc (.cells #[.slice xma m.length xmc, .slice xsa s.length xsc] 32) = W8 at kk b0 b1 b2 bG HX ⊢
      refine (toChances_any _ q ws W8 (HC.out.keep kk)).mono ?_
      rintro e w9 ⟨v9, rfl, r9, k9⟩
      have HY := Lib.hid r9
      obtain ⟨xw, xq, rfl, hxw, hxq⟩ := r9
      obtain ⟨xwa, xwc, rfl, _⟩ := hxw
      obtain ⟨xqa, xqc, rfl⟩ := hxq.shape
      have k10 := k9.alloc (.cells #[.slice xwa ws.length xwc, .slice xqa q.length xqc] 34)
      replace kk := kk.keep k10
      replace b0 := b0.keep k10
      replace b1 := b1.keep k10
      replace b2 := b2.keep k10
      replace bG := bG.keep k10
      replace HX := Lib.hid (HX.out.keep k10)
      have b3 := BoxN.new w9 #[.slice xwa ws.length xwc, .slice xqa q.length xqc] 34
      have HY := Lib.hid (HY.out.keep ((Chg.refl No w9).alloc (.cells #[.slice xwa ws.length xwc, .slice xqa q.length xqc] 34)))
      have g0 := b2.c 0 _ rfl
      have g1 := b2.c 1 _ rfl
      have g2 := b3.c 0 _ rfl
      have g3 := b3.c 1 _ rfl
      clear k9 k10 hxq
      go_wp2_with fail
      clear g0 g1 g2 g3
      obtain ⟨X1, hX1⟩ : ∃ X1, w9.heap.size = X1 := ⟨_, rfl⟩
      rw [hX1] at b3 ⊢
      clear hX1
      generalize w9.alloc (.cells #[.slice xwa ws.length xwc, .slice xqa q.length xqc] 34) = W10 at kk b0 b1 b2 b3 bG HX HY ⊢
      refine (implBestExpected_any No _ _ ⟨m, s⟩ st q ws W10 HX.out HY.out).mono ?_
      rintro e w11 ⟨_, _, rfl, rfl, rfl, k11⟩
      rw [HF.out]
      have bH := BoxN.new w11 #[.int .i64 fr.num, .int .i64 fr.den] 46
      have k12 := k11.alloc (.cells #[.int .i64 fr.num, .int .i64 fr.den] 46)
      replace kk := kk.keep k12
      replace b0 := b0.keep k12
      replace b1 := b1.keep k12
      replace b2 := b2.keep k12
      replace b3 := b3.keep k12
      replace bG := bG.keep k12
      replace HX := Lib.hid (HX.out.keep k12)
      replace HY := Lib.hid (HY.out.keep k12)
      have g0 := bG.c 0 _ rfl
      have g1 := bG.c 1 _ rfl
      clear k11 k12
      go_wp2_with fail
      clear g0 g1
      obtain ⟨X2, hX2⟩ : ∃ X2, w11.heap.size = X2 := ⟨_, rfl⟩
      rw [hX2] at bH ⊢
      clear hX2
      generalize w11.alloc (.cells #[.int .i64 fr.num, .int .i64 fr.den] 46) = W12 at kk b0 b1 b2 b3 bG bH HX HY ⊢
      refine (eqFracP_same _ _ _).mono ?_
      rintro e w13 ⟨_, rfl, rfl, k13⟩
      replace kk := kk.keep k13
      replace b0 := b0.keep k13
      replace b1 := b1.keep k13
      try replace bG := bG.keep k13
      try replace b2 := b2.keep k13
      try replace b3 := b3.keep k13
      try replace bH := bH.keep k13
      try replace HX := Lib.hid (HX.out.keep k13)
      try replace HY := Lib.hid (HY.out.keep k13)
      clear k13
      go_wp2_with fail
      refine wp_region_K (S := fun W => (W.cell? ⟨X0, 0, none⟩ = some (.slice xma m.length xmc) ∧ W.cell? ⟨X0, 1, none⟩ = some (.slice xsa s.length xsc)) ∧ W.cell? ⟨w.heap.size, 0, none⟩ = some (.slice ma m.length mc) ∧ W.cell? ⟨w.heap.size, 1, none⟩ = some (.slice sa s.length sc)) (k := 3) (by kernel_rfl) ?_
      replace kk := kk.keep (drewN0 _)
      replace b0 := b0.keep (drewN0 _)
      replace b1 := b1.keep (drewN0 _)
      try replace bG := bG.keep (drewN0 _)
      try replace b2 := b2.keep (drewN0 _)
      try replace b3 := b3.keep (drewN0 _)
      try replace bH := bH.keep (drewN0 _)
      try replace HX := Lib.hid (HX.out.keep (drewN0 _))
      try replace HY := Lib.hid (HY.out.keep (drewN0 _))
      generalize w13.drew = W13 at kk b0 b1 b2 b3 HX HY ⊢
      have SF : ∀ W, Chg No W13 W → (W.cell? ⟨X0, 0, none⟩ = some (.slice xma m.length xmc) ∧ W.cell? ⟨X0, 1, none⟩ = some (.slice xsa s.length xsc)) ∧ W.cell? ⟨w.heap.size, 0, none⟩ = some (.slice ma m.length mc) ∧ W.cell? ⟨w.heap.size, 1, none⟩ = some (.slice sa s.length sc) :=
        fun W k => ⟨⟨(b2.keep k).c 0 _ rfl, (b2.keep k).c 1 _ rfl⟩, (b0.keep k).c 0 _ rfl, (b0.keep k).c 1 _ rfl⟩
      have hS := SF _ (Chg.refl No W13)
      refine wpAnyK_takeT 0 (.agg #[.slice xma m.length xmc, .slice xsa s.length xsc]) rfl (by kernel_rfl) (fun _ _ _ h => h) hS rfl (by intro w hSw; go_simp) ?_
      simp only [List.getElem_toArray, List.getElem_cons_zero, Act.put, List.setIfInBounds_toArray, List.set_cons_zero, List.set_cons_succ]
      refine wpAnyK_takeT 1 (.agg #[.slice ma m.length mc, .slice sa s.length sc]) rfl (by kernel_rfl) (fun _ _ _ h => h) hS rfl (by intro w hSw; go_simp) ?_
      simp only [List.getElem_toArray, List.getElem_cons_succ, List.getElem_cons_zero, Act.put, List.setIfInBounds_toArray, List.set_cons_zero, List.set_cons_succ]
      refine wpAnyK_1 2 (by kernel_rfl) (wpOpK' rfl rfl ?_)
      intro K hK
      refine ocall (f := 11) (args := #[.agg #[.slice ma m.length mc, .slice sa s.length sc]]) (by go_simp) (toProblem_any _ ⟨m, s⟩ W13 (HP.out.keep kk)) (fun v14 w14 h14 => hK.out _ _ (SF w14 h14.2) ?_)
      obtain ⟨r14, k14⟩ := h14
      clear hK K
      simp only [List.getElem_toArray, List.getElem_cons_succ, List.getElem_cons_zero, Act.put, List.setIfInBounds_toArray, List.set_cons_zero, List.set_cons_succ]
      clear SF hS
      replace kk := kk.keep k14
      replace b0 := b0.keep k14
      replace b1 := b1.keep k14
      try replace bG := bG.keep k14
      try replace b2 := b2.keep k14
      try replace b3 := b3.keep k14
      try replace bH := bH.keep k14
      try replace HX := Lib.hid (HX.out.keep k14)
      try replace HY := Lib.hid (HY.out.keep k14)
      clear k14
      refine wpAnyK_tail 3 rfl (by kernel_rfl) ?_
      simp only [List.drop_succ_cons, List.drop_zero]
      go_wp2_with fail
      refine (eqProblem_same _ _ ⟨m, s⟩ w14 HX.out r14).mono ?_
      rintro e w15 ⟨_, rfl, rfl, k15⟩
      replace kk := kk.keep k15
      replace b0 := b0.keep k15
      replace b1 := b1.keep k15
      try replace bG := bG.keep k15
      try replace b2 := b2.keep k15
      try replace b3 := b3.keep k15
      try replace bH := bH.keep k15
      try replace HX := Lib.hid (HX.out.keep k15)
      try replace HY := Lib.hid (HY.out.keep k15)
      clear k15
      go_wp2_with fail
      refine wp_region_K (S := fun W => (W.cell? ⟨X1, 0, none⟩ = some (.slice xwa ws.length xwc) ∧ W.cell? ⟨X1, 1, none⟩ = some (.slice xqa q.length xqc)) ∧ W.cell? ⟨w.heap.size + 1, 0, none⟩ = some (.slice wa ws.length wc) ∧ W.cell? ⟨w.heap.size + 1, 1, none⟩ = some (.slice qa q.length qc)) (k := 3) (by kernel_rfl) ?_
      replace kk := kk.keep (drewN0 _)
      replace b0 := b0.keep (drewN0 _)
      replace b1 := b1.keep (drewN0 _)
      try replace bG := bG.keep (drewN0 _)
      try replace b2 := b2.keep (drewN0 _)
      try replace b3 := b3.keep (drewN0 _)
      try replace bH := bH.keep (drewN0 _)
      try replace HX := Lib.hid (HX.out.keep (drewN0 _))
      try replace HY := Lib.hid (HY.out.keep (drewN0 _))
      generalize w15.drew = W16 at kk b0 b1 b2 b3 HX HY ⊢
      have SF : ∀ W, Chg No W16 W → (W.cell? ⟨X1, 0, none⟩ = some (.slice xwa ws.length xwc) ∧ W.cell? ⟨X1, 1, none⟩ = some (.slice xqa q.length xqc)) ∧ W.cell? ⟨w.heap.size + 1, 0, none⟩ = some (.slice wa ws.length wc) ∧ W.cell? ⟨w.heap.size + 1, 1, none⟩ = some (.slice qa q.length qc) :=
        fun W k => ⟨⟨(b3.keep k).c 0 _ rfl, (b3.keep k).c 1 _ rfl⟩, (b1.keep k).c 0 _ rfl, (b1.keep k).c 1 _ rfl⟩
      have hS := SF _ (Chg.refl No W16)
      refine wpAnyK_takeT 0 (.agg #[.slice xwa ws.length xwc, .slice xqa q.length xqc]) rfl (by kernel_rfl) (fun _ _ _ h => h) hS rfl (by intro w hSw; go_simp) ?_
      simp only [List.getElem_toArray, List.getElem_cons_zero, Act.put, List.setIfInBounds_toArray, List.set_cons_zero, List.set_cons_succ]
      refine wpAnyK_takeT 1 (.agg #[.slice wa ws.length wc, .slice qa q.length qc]) rfl (by kernel_rfl) (fun _ _ _ h => h) hS rfl (by intro w hSw; go_simp) ?_
      simp only [List.getElem_toArray, List.getElem_cons_succ, List.getElem_cons_zero, Act.put, List.setIfInBounds_toArray, List.set_cons_zero, List.set_cons_succ]
      refine wpAnyK_1 2 (by kernel_rfl) (wpOpK' rfl rfl ?_)
      intro K hK
      refine ocall (f := 12) (args := #[.agg #[.slice wa ws.length wc, .slice qa q.length qc]]) (by go_simp) (toChances_any _ q ws W16 (HC.out.keep kk)) (fun v17 w17 h17 => hK.out _ _ (SF w17 h17.2) ?_)
      obtain ⟨r17, k17⟩ := h17
      clear hK K
      simp only [List.getElem_toArray, List.getElem_cons_succ, List.getElem_cons_zero, Act.put, List.setIfInBounds_toArray, List.set_cons_zero, List.set_cons_succ]
      clear SF hS
      replace kk := kk.keep k17
      replace b0 := b0.keep k17
      replace b1 := b1.keep k17
      try replace bG := bG.keep k17
      try replace b2 := b2.keep k17
      try replace b3 := b3.keep k17
      try replace bH := bH.keep k17
      try replace HX := Lib.hid (HX.out.keep k17)
      try replace HY := Lib.hid (HY.out.keep k17)
      clear k17
      refine wpAnyK_tail 3 rfl (by kernel_rfl) ?_
      simp only [List.drop_succ_cons, List.drop_zero]
      go_wp2_with fail
      refine (eqChances_same _ _ q ws w17 HY.out r17).mono ?_
      rintro e w18 ⟨_, rfl, rfl, k18⟩
      replace kk := kk.keep k18
      replace b0 := b0.keep k18
      replace b1 := b1.keep k18
      try replace bG := bG.keep k18
      try replace b2 := b2.keep k18
      try replace b3 := b3.keep k18
      try replace bH := bH.keep k18
      try replace HX := Lib.hid (HX.out.keep k18)
      try replace HY := Lib.hid (HY.out.keep k18)
      clear k18
      go_wp2_with fail
      go_ret
      exact ⟨rfl, kk⟩
  ·
    have hwG := b1.lt
    intro K hK
    unfold Oper.wp execOp
    go_simp
    have kal := (Chg.refl No W2).alloc (.cells #[.int .i64 0, .int .i64 0] 46)
    refine hK.out _ _ (SF _ (kq.keep kal)) ?_
    clear hK K
    simp only [List.setIfInBounds_toArray]
    replace kk := kk.keep kal
    replace b0 := b0.keep kal
    replace b1 := b1.keep kal
    try replace bG := bG.keep kal
    try replace b2 := b2.keep kal
    try replace b3 := b3.keep kal
    try replace bH := bH.keep kal
    try replace HX := Lib.hid (HX.out.keep kal)
    try replace HY := Lib.hid (HY.out.keep kal)
    replace kq := kq.keep kal
    have bG := BoxN.new W2 #[.int .i64 0, .int .i64 0] 46
    obtain ⟨G, hG⟩ : ∃ G, W2.heap.size = G := ⟨_, rfl⟩
    rw [hG] at bG hwG ⊢
    try replace r3 := r3.keep kal
    try replace r4 := r4.keep kal
    clear kal hG
    generalize hWO : W2.alloc (.cells #[.int .i64 0, .int .i64 0] 46) = WA at kk kq b0 b1 bG ⊢
    try rw [hWO] at r3
    try rw [hWO] at r4
    clear hWO
    refine wpAnyK_1 1 (by kernel_rfl) (wpOpK' rfl rfl ?_)
    intro K hK
    refine ocall (f := 11) (args := #[.agg #[.slice ma m.length mc, .slice sa s.length sc]]) (by go_simp) (toProblem_any _ ⟨m, s⟩ WA (HP.out.keep kk)) (fun v3 W3 h3 => hK.out _ _ (SF W3 (kq.keep h3.2)) ?_)
    obtain ⟨r3, k3⟩ := h3
    clear hK K
    simp only [List.getElem_toArray, List.getElem_cons_succ, List.getElem_cons_zero, Act.put, List.setIfInBounds_toArray, List.set_cons_zero, List.set_cons_succ]
    replace kk := kk.keep k3
    replace b0 := b0.keep k3
    replace b1 := b1.keep k3
    try replace bG := bG.keep k3
    try replace b2 := b2.keep k3
    try replace b3 := b3.keep k3
    try replace bH := bH.keep k3
    try replace HX := Lib.hid (HX.out.keep k3)
    try replace HY := Lib.hid (HY.out.keep k3)
    replace kq := kq.keep k3
    refine wpAnyK_1 4 (by kernel_rfl) (wpOpK' rfl rfl ?_)
    intro K hK
    refine ocall (f := 12) (args := #[.agg #[.slice wa ws.length wc, .slice qa q.length qc]]) (by go_simp) (toChances_any _ q ws W3 (HC.out.keep kk)) (fun v4 W4 h4 => hK.out _ _ (SF W4 (kq.keep h4.2)) ?_)
    obtain ⟨r4, k4⟩ := h4
    clear hK K
    simp only [List.getElem_toArray, List.getElem_cons_succ, List.getElem_cons_zero, Act.put, List.setIfInBounds_toArray, List.set_cons_zero, List.set_cons_succ]
    replace kk := kk.keep k4
    replace b0 := b0.keep k4
    replace b1 := b1.keep k4
    try replace bG := bG.keep k4
    try replace b2 := b2.keep k4
    try replace b3 := b3.keep k4
    try replace bH := bH.keep k4
    try replace HX := Lib.hid (HX.out.keep k4)
    try replace HY := Lib.hid (HY.out.keep k4)
    replace kq := kq.keep k4
    replace r3 := r3.keep k4
    refine wpAnyK_1 5 (by kernel_rfl) (wpOpK' rfl rfl ?_)
    intro K hK
    refine ocall (f := 23) (args := #[v3, .int .i64 st, v4]) (by go_simp) (ret2_eq (specBestExpected_any No _ _ ⟨m, s⟩ st q ws W4 r3 r4)) (fun v5 W5 h5 => hK.out _ _ (SF W5 (kq.keep h5.2)) ?_)
    obtain ⟨rfl, k5⟩ := h5
    rw [HF.out]
    clear hK K r3 r4
    simp only [List.getElem_toArray, List.getElem_cons_succ, List.getElem_cons_zero, Act.put, List.setIfInBounds_toArray, List.set_cons_zero, List.set_cons_succ]
    replace kk := kk.keep k5
    replace b0 := b0.keep k5
    replace b1 := b1.keep k5
    try replace bG := bG.keep k5
    try replace b2 := b2.keep k5
    try replace b3 := b3.keep k5
    try replace bH := bH.keep k5
    try replace HX := Lib.hid (HX.out.keep k5)
    try replace HY := Lib.hid (HY.out.keep k5)
    replace kq := kq.keep k5
    replace hS := SF _ kq
    refine wpAnyK_take0 6 (.tuple #[.agg #[.int .i64 fr.num, .int .i64 fr.den], .bool fr.ok]) rfl (by kernel_rfl) (fun _ _ _ h => h) hS rfl (by intro w; go_simp) ?_
    simp only [List.getElem_toArray, List.getElem_cons_succ, List.getElem_cons_zero, Act.put, List.setIfInBounds_toArray, List.set_cons_zero, List.set_cons_succ]
    refine wpAnyK_take0 7 (.agg #[.int .i64 fr.num, .int .i64 fr.den]) rfl (by kernel_rfl) (fun _ _ _ h => h) hS rfl (by intro w; go_simp) ?_
    simp only [List.getElem_toArray, List.getElem_cons_succ, List.getElem_cons_zero, Act.put, List.setIfInBounds_toArray, List.set_cons_zero, List.set_cons_succ]
    refine wpAnyK_take0 8 (.bool fr.ok) rfl (by kernel_rfl) (fun _ _ _ h => h) hS rfl (by intro w; go_simp) ?_
    simp only [List.getElem_toArray, List.getElem_cons_succ, List.getElem_cons_zero, Act.put, List.setIfInBounds_toArray, List.set_cons_zero, List.set_cons_succ]
    refine wpAnyK_tailL 10 rfl (by kernel_rfl) ?_
    simp only [List.drop_succ_cons, List.drop_zero]
    clear SF hS kq
    have f0 := bG.fr 0
    have f1 := bG.fr 1
    have h0 := bG.c 0 _ rfl
    have h1 := bG.c 1 _ rfl
    have hlG := bG.lt
    replace kk := (kk.setCell (p := ⟨G, 0, none⟩) (fun h => by simp at h; omega) (.int .i64 fr.num)).setCell (p := ⟨G, 1, none⟩) (fun h => by simp at h; omega) (.int .i64 fr.den)
    replace b0 := (b0.far ⟨G, 0, none⟩ (.int .i64 fr.num) (by simp; omega)).far ⟨G, 1, none⟩ (.int .i64 fr.den) (by simp; omega)
    replace b1 := (b1.far ⟨G, 0, none⟩ (.int .i64 fr.num) (by simp; omega)).far ⟨G, 1, none⟩ (.int .i64 fr.den) (by simp; omega)
    replace bG := (bG.set (i := 0) (by simp) (.int .i64 fr.num)).set (i := 1) (by simp) (.int .i64 fr.den)
    have g0 := b0.c 0 _ rfl
    have g1 := b0.c 1 _ rfl
    go_wp2_with fail
    generalize (W5.setCell ⟨G, 0, none⟩ (.int .i64 fr.num)).setCell ⟨G, 1, none⟩ (.int .i64 fr.den) = W6 at kk b0 b1 bG g0 g1 ⊢
    refine (toProblem_any _ ⟨m, s⟩ W6 (HP.out.keep kk)).mono ?_
    rintro e w7 ⟨v7, rfl, r7, k7⟩
    have HX := Lib.hid r7
    obtain ⟨xm, xs, rfl, hxm, hxs⟩ := r7
    obtain ⟨xma, xmc, rfl⟩ := hxm.shape
    obtain ⟨xsa, xsc, rfl⟩ := hxs.shape
    have k8 := k7.alloc (.cells #[.slice xma m.length xmc, .slice xsa s.length xsc] 32)
    replace kk := kk.keep k8
    replace b0 := b0.keep k8
    replace b1 := b1.keep k8
    replace bG := bG.keep k8
    have b2 := BoxN.new w7 #[.slice xma m.length xmc, .slice xsa s.length xsc] 32
    have HX := Lib.hid (HX.out.keep ((Chg.refl No w7).alloc (.cells #[.slice xma m.length xmc, .slice xsa s.length xsc] 32)))
    have g2 := b1.c 0 _ rfl
    have g3 := b1.c 1 _ rfl
    clear g0 g1 k7 k8 hxm hxs f0 f1 h0 h1
    go_wp2_with fail
    clear g2 g3
    obtain ⟨X0, hX0⟩ : ∃ X0, w7.heap.size = X0 := ⟨_, rfl⟩
    rw [hX0] at b2 ⊢
    clear hX0
    generalize w7.alloc (.cells #[.slice xma m.length xmc, .slice xsa s.length xsc] 32) = W8 at kk b0 b1 b2 bG HX ⊢
    refine (toChances_any _ q ws W8 (HC.out.keep kk)).mono ?_
    rintro e w9 ⟨v9, rfl, r9, k9⟩
    have HY := Lib.hid r9
    obtain ⟨xw, xq, rfl, hxw, hxq⟩ := r9
    obtain ⟨xwa, xwc, rfl, _⟩ := hxw
    obtain ⟨xqa, xqc, rfl⟩ := hxq.shape
    have k10 := k9.alloc (.cells #[.slice xwa ws.length xwc, .slice xqa q.length xqc] 34)
    replace kk := kk.keep k10
    replace b0 := b0.keep k10
    replace b1 := b1.keep k10
    replace b2 := b2.keep k10
    replace bG := bG.keep k10
    replace HX := Lib.hid (HX.out.keep k10)
    have b3 := BoxN.new w9 #[.slice xwa ws.length xwc, .slice xqa q.length xqc] 34
    have HY := Lib.hid (HY.out.keep ((Chg.refl No w9).alloc (.cells #[.slice xwa ws.length xwc, .slice xqa q.length xqc] 34)))
    have g0 := b2.c 0 _ rfl
    have g1 := b2.c 1 _ rfl
    have g2 := b3.c 0 _ rfl
    have g3 := b3.c 1 _ rfl
    clear k9 k10 hxq
    go_wp2_with fail
    clear g0 g1 g2 g3
    obtain ⟨X1, hX1⟩ : ∃ X1, w9.heap.size = X1 := ⟨_, rfl⟩
    rw [hX1] at b3 ⊢
    clear hX1
    generalize w9.alloc (.cells #[.slice xwa ws.length xwc, .slice xqa q.length xqc] 34) = W10 at kk b0 b1 b2 b3 bG HX HY ⊢
    refine (implBestExpected_any No _ _ ⟨m, s⟩ st q ws W10 HX.out HY.out).mono ?_
    rintro e w11 ⟨_, _, rfl, rfl, rfl, k11⟩
    rw [HF.out]
    have bH := BoxN.new w11 #[.int .i64 fr.num, .int .i64 fr.den] 46
    have k12 := k11.alloc (.cells #[.int .i64 fr.num, .int .i64 fr.den] 46)
    replace kk := kk.keep k12
    replace b0 := b0.keep k12
    replace b1 := b1.keep k12
    replace b2 := b2.keep k12
    replace b3 := b3.keep k12
    replace bG := bG.keep k12
    replace HX := Lib.hid (HX.out.keep k12)
    replace HY := Lib.hid (HY.out.keep k12)
    have g0 := bG.c 0 _ rfl
    have g1 := bG.c 1 _ rfl
    clear k11 k12
    go_wp2_with fail
    clear g0 g1
    obtain ⟨X2, hX2⟩ : ∃ X2, w11.heap.size = X2 := ⟨_, rfl⟩
    rw [hX2] at bH ⊢
    clear hX2
    generalize w11.alloc (.cells #[.int .i64 fr.num, .int .i64 fr.den] 46) = W12 at kk b0 b1 b2 b3 bG bH HX HY ⊢
    refine (eqFracP_same _ _ _).mono ?_
    rintro e w13 ⟨_, rfl, rfl, k13⟩
    replace kk := kk.keep k13
    replace b0 := b0.keep k13
    replace b1 := b1.keep k13
    try replace bG := bG.keep k13
    try replace b2 := b2.keep k13
    try replace b3 := b3.keep k13
    try replace bH := bH.keep k13
    try replace HX := Lib.hid (HX.out.keep k13)
    try replace HY := Lib.hid (HY.out.keep k13)
    clear k13
    go_wp2_with fail
    refine wp_region_K (S := fun W => (W.cell? ⟨X0, 0, none⟩ = some (.slice xma m.length xmc) ∧ W.cell? ⟨X0, 1, none⟩ = some (.slice xsa s.length xsc)) ∧ W.cell? ⟨w.heap.size, 0, none⟩ = some (.slice ma m.length mc) ∧ W.cell? ⟨w.heap.size, 1, none⟩ = some (.slice sa s.length sc)) (k := 3) (by kernel_rfl) ?_
    replace kk := kk.keep (drewN0 _)
    replace b0 := b0.keep (drewN0 _)
    replace b1 := b1.keep (drewN0 _)
    try replace bG := bG.keep (drewN0 _)
    try replace b2 := b2.keep (drewN0 _)
    try replace b3 := b3.keep (drewN0 _)
    try replace bH := bH.keep (drewN0 _)
    try replace HX := Lib.hid (HX.out.keep (drewN0 _))
    try replace HY := Lib.hid (HY.out.keep (drewN0 _))
    generalize w13.drew = W13 at kk b0 b1 b2 b3 HX HY ⊢
    have SF : ∀ W, Chg No W13 W → (W.cell? ⟨X0, 0, none⟩ = some (.slice xma m.length xmc) ∧ W.cell? ⟨X0, 1, none⟩ = some (.slice xsa s.length xsc)) ∧ W.cell? ⟨w.heap.size, 0, none⟩ = some (.slice ma m.length mc) ∧ W.cell? ⟨w.heap.size, 1, none⟩ = some (.slice sa s.length sc) :=
      fun W k => ⟨⟨(b2.keep k).c 0 _ rfl, (b2.keep k).c 1 _ rfl⟩, (b0.keep k).c 0 _ rfl, (b0.keep k).c 1 _ rfl⟩
    have hS := SF _ (Chg.refl No W13)
    refine wpAnyK_takeT 0 (.agg #[.slice xma m.length xmc, .slice xsa s.length xsc]) rfl (by kernel_rfl) (fun _ _ _ h => h) hS rfl (by intro w hSw; go_simp) ?_
    simp only [List.getElem_toArray, List.getElem_cons_zero, Act.put, List.setIfInBounds_toArray, List.set_cons_zero, List.set_cons_succ]
    refine wpAnyK_takeT 1 (.agg #[.slice ma m.length mc, .slice sa s.length sc]) rfl (by kernel_rfl) (fun _ _ _ h => h) hS rfl (by intro w hSw; go_simp) ?_
    simp only [List.getElem_toArray, List.getElem_cons_succ, List.getElem_cons_zero, Act.put, List.setIfInBounds_toArray, List.set_cons_zero, List.set_cons_succ]
    refine wpAnyK_1 2 (by kernel_rfl) (wpOpK' rfl rfl ?_)
    intro K hK
    refine ocall (f := 11) (args := #[.agg #[.slice ma m.length mc, .slice sa s.length sc]]) (by go_simp) (toProblem_any _ ⟨m, s⟩ W13 (HP.out.keep kk)) (fun v14 w14 h14 => hK.out _ _ (SF w14 h14.2) ?_)
    obtain ⟨r14, k14⟩ := h14
    clear hK K
    simp only [List.getElem_toArray, List.getElem_cons_succ, List.getElem_cons_zero, Act.put, List.setIfInBounds_toArray, List.set_cons_zero, List.set_cons_succ]
    clear SF hS
    replace kk := kk.keep k14
    replace b0 := b0.keep k14
    replace b1 := b1.keep k14
    try replace bG := bG.keep k14
    try replace b2 := b2.keep k14
    try replace b3 := b3.keep k14
    try replace bH := bH.keep k14
    try replace HX := Lib.hid (HX.out.keep k14)
    try replace HY := Lib.hid (HY.out.keep k14)
    clear k14
    refine wpAnyK_tail 3 rfl (by kernel_rfl) ?_
    simp only [List.drop_succ_cons, List.drop_zero]
    go_wp2_with fail
    refine (eqProblem_same _ _ ⟨m, s⟩ w14 HX.out r14).mono ?_
    rintro e w15 ⟨_, rfl, rfl, k15⟩
    replace kk := kk.keep k15
    replace b0 := b0.keep k15
    replace b1 := b1.keep k15
    try replace bG := bG.keep k15
    try replace b2 := b2.keep k15
    try replace b3 := b3.keep k15
    try replace bH := bH.keep k15
    try replace HX := Lib.hid (HX.out.keep k15)
    try replace HY := Lib.hid (HY.out.keep k15)
    clear k15
    go_wp2_with fail
    refine wp_region_K (S := fun W => (W.cell? ⟨X1, 0, none⟩ = some (.slice xwa ws.length xwc) ∧ W.cell? ⟨X1, 1, none⟩ = some (.slice xqa q.length xqc)) ∧ W.cell? ⟨w.heap.size + 1, 0, none⟩ = some (.slice wa ws.length wc) ∧ W.cell? ⟨w.heap.size + 1, 1, none⟩ = some (.slice qa q.length qc)) (k := 3) (by kernel_rfl) ?_
    replace kk := kk.keep (drewN0 _)
    replace b0 := b0.keep (drewN0 _)
    replace b1 := b1.keep (drewN0 _)
    try replace bG := bG.keep (drewN0 _)
    try replace b2 := b2.keep (drewN0 _)
    try replace b3 := b3.keep (drewN0 _)
    try replace bH := bH.keep (drewN0 _)
    try replace HX := Lib.hid (HX.out.keep (drewN0 _))
    try replace HY := Lib.hid (HY.out.keep (drewN0 _))
    generalize w15.drew = W16 at kk b0 b1 b2 b3 HX HY ⊢
    have SF : ∀ W, Chg No W16 W → (W.cell? ⟨X1, 0, none⟩ = some (.slice xwa ws.length xwc) ∧ W.cell? ⟨X1, 1, none⟩ = some (.slice xqa q.length xqc)) ∧ W.cell? ⟨w.heap.size + 1, 0, none⟩ = some (.slice wa ws.length wc) ∧ W.cell? ⟨w.heap.size + 1, 1, none⟩ = some (.slice qa q.length qc) :=
      fun W k => ⟨⟨(b3.keep k).c 0 _ rfl, (b3.keep k).c 1 _ rfl⟩, (b1.keep k).c 0 _ rfl, (b1.keep k).c 1 _ rfl⟩
    have hS := SF _ (Chg.refl No W16)
    refine wpAnyK_takeT 0 (.agg #[.slice xwa ws.length xwc, .slice xqa q.length xqc]) rfl (by kernel_rfl) (fun _ _ _ h => h) hS rfl (by intro w hSw; go_simp) ?_
    simp only [List.getElem_toArray, List.getElem_cons_zero, Act.put, List.setIfInBounds_toArray, List.set_cons_zero, List.set_cons_succ]
    refine wpAnyK_takeT 1 (.agg #[.slice wa ws.length wc, .slice qa q.length qc]) rfl (by kernel_rfl) (fun _ _ _ h => h) hS rfl (by intro w hSw; go_simp) ?_
    simp only [List.getElem_toArray, List.getElem_cons_succ, List.getElem_cons_zero, Act.put, List.setIfInBounds_toArray, List.set_cons_zero, List.set_cons_succ]
    refine wpAnyK_1 2 (by kernel_rfl) (wpOpK' rfl rfl ?_)
    intro K hK
    refine ocall (f := 12) (args := #[.agg #[.slice wa ws.length wc, .slice qa q.length qc]]) (by go_simp) (toChances_any _ q ws W16 (HC.out.keep kk)) (fun v17 w17 h17 => hK.out _ _ (SF w17 h17.2) ?_)
    obtain ⟨r17, k17⟩ := h17
    clear hK K
    simp only [List.getElem_toArray, List.getElem_cons_succ, List.getElem_cons_zero, Act.put, List.setIfInBounds_toArray, List.set_cons_zero, List.set_cons_succ]
    clear SF hS
    replace kk := kk.keep k17
    replace b0 := b0.keep k17
    replace b1 := b1.keep k17
    try replace bG := bG.keep k17
    try replace b2 := b2.keep k17
    try replace b3 := b3.keep k17
    try replace bH := bH.keep k17
    try replace HX := Lib.hid (HX.out.keep k17)
    try replace HY := Lib.hid (HY.out.keep k17)
    clear k17
    refine wpAnyK_tail 3 rfl (by kernel_rfl) ?_
    simp only [List.drop_succ_cons, List.drop_zero]
    go_wp2_with fail
    refine (eqChances_same _ _ q ws w17 HY.out r17).mono ?_
    rintro e w18 ⟨_, rfl, rfl, k18⟩
    replace kk := kk.keep k18
    replace b0 := b0.keep k18
    replace b1 := b1.keep k18
    try replace bG := bG.keep k18
    try replace b2 := b2.keep k18
    try replace b3 := b3.keep k18
    try replace bH := bH.keep k18
    try replace HX := Lib.hid (HX.out.keep k18)
    try replace HY := Lib.hid (HY.out.keep k18)
    clear k18
    go_wp2_with fail
    go_ret
    exact ⟨rfl, kk⟩
end Go.Proofs.Ytndhijckbponkaa
