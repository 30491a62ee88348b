import Derived.Test.YtndhijckbponkaaRp
import Derived.Test.YtndhijckbponkaaPq
import Derived.Test.YtndhijckbponkaaTy
/- the worst sequence of a mixture -/
namespace Go.Proofs.Ytndhijckbponkaa
open Go.RowKit

theorem WJ.keep {p : Pr} {ns : List (List (List Int))} {ws : List Int} {S n L bM bB k : Nat} {W0 W W' : World} {T : Nat → Prop} (h : WJ p ns ws S n L bM bB W0 k W) (hc : Chg T W W') (hT : ∀ q, T q → W0.heap.size ≤ q) (hM : bM < W0.heap.size) (hB : bB < W0.heap.size) : WJ p ns ws S n L bM bB W0 k W' := by
  obtain ⟨mo, bv, h1, h2, h3, h4, h5, h6, h7, h8⟩ := h
  exact ⟨mo, bv, h1.step hc (fun e => by have := hT _ e; omega), h2.step hc (fun e => by have := hT _ e; omega), h3, h4, h5, h6, h7, h8.step hc (fun q e hl => by have := hT q e; omega)⟩
theorem mix_sum {p : Pr} {ns : List (List (List Int))} {ws : List Int} (hm : MixP p ns ws) : ∀ j, j ≤ ws.length → (j : Int) ≤ sumTo (fun a => ws.getD a 0) j ∧ sumTo (fun a => ws.getD a 0) j ≤ 9 * (j : Int)
  | 0, _ => by simp [sumTo]
  | j + 1, h => by
    have ih := mix_sum hm j (by omega)
    have h1 := mix_w hm (i := j) (by have := (mix_len hm).2.2; omega)
    have e : sumTo (fun a => ws.getD a 0) (j + 1) = sumTo (fun a => ws.getD a 0) j + ws.getD j 0 := rfl
    rw [e]
    push_cast
    omega
set_option maxRecDepth 100000 in
set_option maxHeartbeats 4000000 in
theorem WorstOfMixture_any (A B : Nat → Prop) (v cv : Value) (p : Pr) (ns : List (List (List Int))) (ws : List Int) (S L : Nat) (w : World) (hp : PrP p) (hm : MixP p ns ws) (hS : S < p.mv.length) (hL : L ≤ 4) (h : RPr A w v p) (hc : RMx B w cv ns ws) :
    Calls Try.prog 34 #[v, cv, .int .i64 (S : Int), .int .i64 (L : Int)] w fun e w' => ∃ (bv : Value) (mo : Int), e = .returned (.tuple #[bv, .agg #[.int .i64 (mkFr mo (sumW ws)).num, .int .i64 (mkFr mo (sumW ws)).den], .bool (mkFr mo (sumW ws)).ok]) ∧ 0 ≤ mo ∧ mo ≤ 257040 ∧ (∀ t, t < p.sv.length ^ L → mixV p ns ws S (digs p.sv.length L t) ≤ mo) ∧ Chg No w w' := by
  have hv := h
  have hcv := hc
  obtain ⟨mv, sv, rfl, hmm, hss⟩ := h
  obtain ⟨wv, nv, rfl, hw, hn⟩ := hc
  obtain ⟨ma, mc, rfl⟩ := hmm.shape
  obtain ⟨sa, sc, rfl⟩ := hss.shape
  obtain ⟨na, nc, rfl⟩ := hn.shape
  obtain ⟨wa, wc, rfl, _⟩ := id hw
  have hL0 : (0 : Int) ≤ (L : Int) := Int.natCast_nonneg _
  have hts : takB p (S : Int) [] = true := by
    unfold takB
    rw [bP_yes hp, Bool.true_and, Bool.and_eq_true]
    exact ⟨inB_iff.2 (by omega), by unfold seqB belowB; simp⟩
  have HT := Lib.hid hts
  have HM : Hid (bP (MixP p ns ws) = true) := Lib.hid (bP_yes hm)
  have HLL : Hid (inB (L : Int) 0 4 = true) := Lib.hid (inB_iff.2 (by omega))
  clear hmm hss hts
  go_enter Try.func34, Try.ntmps34
  go_wp2_with fail
  refine bx3z (R := fun W => Calls _ _ _ (W.alloc _) _) (fun Wa ka hz b0 b1 b2 => ?_)
  refine bx1 (R := fun W => Calls _ _ _ W _) (fun W0 kb b3 => ?_)
  obtain ⟨R, hR⟩ : ∃ R, w.heap.size = R := ⟨_, rfl⟩
  rw [hR] at hz b0 b1 b2 ⊢
  rw [hz] at b3
  have kk := ka.trans kb
  replace b0 := b0.keep kb
  replace b1 := b1.keep kb
  replace b2 := b2.keep kb
  have HR := Lib.hid hR
  clear ka kb hz hR
  refine (isStarted_any A No _ _ p (S : Int) [] W0 (hv.keep kk) (RI.nil _ _)).mono ?_
  rintro e w1 ⟨_, rfl, rfl, k1⟩
  rw [HT.out]
  replace kk := kk.keep k1
  replace b0 := b0.keep k1
  replace b1 := b1.keep k1
  replace b2 := b2.keep k1
  replace b3 := b3.keep k1
  have g0 := b0.c 0 _ rfl
  have g1 := b0.c 1 _ rfl
  have g2 := b1.c 0 _ rfl
  have g3 := b1.c 1 _ rfl
  clear k1
  go_wp2_with fail
  refine (isMixture_any A B _ _ p ns ws w1 hp (hv.keep kk) (hcv.keep kk)).mono ?_
  rintro e w2 ⟨_, rfl, rfl, k2⟩
  rw [HM.out]
  replace kk := kk.keep k2
  replace b0 := b0.keep k2
  replace b1 := b1.keep k2
  replace b2 := b2.keep k2
  replace b3 := b3.keep k2
  clear k2 g0 g1 g2 g3
  go_wp2_with fail
  refine (within_any _ _ _ _).mono ?_
  rintro e w3 ⟨rfl, rfl⟩
  rw [HLL.out]
  have g0 := b0.c 0 _ rfl
  have g1 := b0.c 1 _ rfl
  have hb3l := b3.lt
  have ga := ((b0.keep ((Chg.refl No w2).alloc (.cells #[.slice none 0 0] 25))).keep ((Chg.refl No (w2.alloc (.cells #[.slice none 0 0] 25))).alloc (.cells #[.int .i64 (-1)] 3))).c 1 _ rfl
  go_wp2_with fail
  refine bx2 (R := fun W => Calls _ _ _ W _) (fun W4 k4 b11 b12 => ?_)
  have hz4 := k4.size
  have hRs : R + 4 ≤ w2.heap.size := by have := b3.lt; omega
  have kk4 := kk.keep k4
  have hz5 := b12.lt
  obtain ⟨Y, hY⟩ : ∃ Y, w2.heap.size = Y := ⟨_, rfl⟩
  rw [hY] at b11 b12 hRs hz5 ⊢
  replace b0 := b0.keep k4
  replace b1 := b1.keep k4
  replace b2 := b2.keep k4
  replace b3 := b3.keep k4
  replace hv := hv.weakA (B := fun q => q = Y + 1 ∨ q = Y) (fun q e hl => by have := HR.out; omega)
  replace hcv := hcv.weak (B := fun q => q = Y + 1 ∨ q = Y) (fun q e hl => by have := HR.out; omega)
  replace hv := hv.keep kk4
  replace hcv := hcv.keep kk4
  have hpl := hp.2.2.1
  clear k4 hY g0 g1 hz4 ga hb3l
  refine (sequences5_any 78 _ _ _ _ _ p.sv.length L (Y + 1) Y (WJ p ns ws S p.sv.length L (Y + 1) Y W4) W4 hpl.1 (by omega) hL (fun x w => cfWorst _ _ _ _ _ x w)
    (fun j w1 w2 T hJ hc hT => hJ.keep hc hT hz5 (by omega)) ⟨hz5, by omega⟩
    (fun j w1 x hj hJ hx => WorstOfMixture1_any _ _ _ _ p ns ws S j L R (R + 1) (R + 1 + 1) (Y + 1) Y W4 w1 x hp hm hS hL hv hcv b0 b1 b2 (by omega) hj hJ hx)
    ⟨-1, .slice none 0 0, b12, b11, ⟨_, _, _, rfl⟩, fun t ht => absurd ht (Nat.not_lt_zero t), by omega, by omega, fun e => absurd e (Nat.not_lt_zero 0), Chg.refl _ _⟩).mono ?_
  rintro e w5 ⟨_, rfl, rfl, ⟨mo, bv, c12, c11, ⟨ba, bm, bc, rfl⟩, hle, hm1, hm2, hm3, ch⟩, _⟩
  have hpos : 0 < p.sv.length ^ L := Nat.pow_pos (by omega)
  have hmo := hm3 hpos
  have hY4 : R + 4 ≤ Y := hRs
  replace hcv := hcv.step ch (fun q e => e)
  have b1' := b1.step ch (by omega)
  have b3' := b3.step ch (by omega)
  have kk5 := kk4.step ch (fun q e hl => by have := HR.out; omega)
  have HSUM := Lib.hid (mix_sum hm)
  have hlw := mix_len hm
  have hW := mix_sum hm ws.length (Nat.le_refl _)
  have hws := hcv.rows.1
  obtain ⟨Wv, hWv⟩ : ∃ x, sumW ws = x := ⟨_, rfl⟩
  have hW1 : 1 ≤ Wv ∧ Wv ≤ 36 := by
    rw [← hWv]
    show 1 ≤ sumTo (fun a => ws.getD a 0) ws.length ∧ sumTo (fun a => ws.getD a 0) ws.length ≤ 36
    omega
  have HTOT : Hid (∀ W, Chg No w5 W → Calls Try.prog 55 #[.slice wa ws.length wc] W fun e w' => e = .returned (.int .i64 Wv) ∧ W = w') := Lib.hid (fun W k => by
    have := total_any _ _ ws W (hws.keep k) (fun j hj => by have := HSUM.out j hj; omega)
    rwa [hWv] at this)
  obtain ⟨fr, hfr⟩ : ∃ fr, mkFr mo Wv = fr := ⟨_, rfl⟩
  have HFRA : Hid (∀ W, Chg No w5 W → Calls Try.prog 58 #[.int .i64 mo, .int .i64 Wv] W (Ret2 fun v0 v1 w' => v0 = .agg #[.int .i64 fr.num, .int .i64 fr.den] ∧ v1 = .bool fr.ok ∧ Chg No W w')) := Lib.hid (fun W _ => by
    have := makeFrac_any mo Wv W (by omega) (by omega) hW1.1 (by omega)
    rwa [hfr] at this)
  have HEND : Hid (mkFr mo (sumW ws) = fr ∧ 0 ≤ mo ∧ mo ≤ 257040 ∧ ∀ t, t < p.sv.length ^ L → mixV p ns ws S (digs p.sv.length L t) ≤ mo) := Lib.hid ⟨by rw [hWv]; exact hfr, hmo, hm2, hle⟩
  have HS : Hid (∀ W, Chg No w5 W → W.cell? ⟨Y + 1, 0, none⟩ = some (.int .i64 mo) ∧ W.cell? ⟨R + 1, 0, none⟩ = some (.slice wa ws.length wc)) := Lib.hid (fun W k => ⟨(c12.keep k).c 0 _ rfl, (b1'.keep k).c 0 _ rfl⟩)
  clear hWv hfr hW hlw hws hm1 hm2 hm3 hmo hle hcv hv b0 b1 b2 b3 b11 b12 ch c12 b1' kk kk4 hpl hpos
  go_wp2_with fail
  refine wp_region_K (S := fun W => W.cell? ⟨Y + 1, 0, none⟩ = some (.int .i64 mo) ∧ W.cell? ⟨R + 1, 0, none⟩ = some (.slice wa ws.length wc)) (k := 9) (by kernel_rfl) ?_
  have kq : Chg No w5 (World.drew w5) := drewN0 _
  generalize World.drew w5 = WQ at kq ⊢
  have hS := HS.out WQ kq
  refine wpAnyK_take 0 (.int .i64 mo) rfl (by kernel_rfl) (fun _ _ _ h => h) hS rfl (by intro w hSw; go_simp) ?_
  simp only [List.getElem_toArray, List.getElem_cons_zero, Act.put, List.setIfInBounds_toArray, List.set_cons_zero, List.set_cons_succ]
  refine wpAnyK_take0 1 (.pointer (some ⟨R + 1, 0, none⟩)) rfl (by kernel_rfl) (fun _ _ _ h => h) hS rfl (by intro w; go_simp) ?_
  simp only [List.getElem_toArray, List.getElem_cons_succ, List.getElem_cons_zero, Act.put, List.setIfInBounds_toArray, List.set_cons_zero, List.set_cons_succ]
  refine wpAnyK_take 2 (.slice wa ws.length wc) rfl (by kernel_rfl) (fun _ _ _ h => h) hS rfl (by intro w hSw; go_simp) ?_
  simp only [List.getElem_toArray, List.getElem_cons_succ, List.getElem_cons_zero, Act.put, List.setIfInBounds_toArray, List.set_cons_zero, List.set_cons_succ]
  clear hS
  refine wpAnyK_2 3 8 (by kernel_rfl) (wpOpK' rfl rfl ?_) (wpOpK' rfl rfl ?_)
  · skip
    intro K0 hK0
    refine ocallE (f := 55) (args := #[.slice wa ws.length wc]) (φ := fun v W' => v = .int .i64 Wv ∧ Chg No WQ W') (by go_simp) ((HTOT.out WQ kq).mono (fun e W' ⟨h1, h2⟩ => ⟨_, h1, rfl, h2 ▸ Chg.refl _ _⟩)) (fun v2 W2 h2 => hK0.out _ _ (HS.out W2 (kq.keep h2.2)) ?_)
    obtain ⟨rfl, k2⟩ := h2
    replace kq := kq.keep k2
    try replace bz := bz.keep k2
    clear hK0 K0 k2
    simp only [List.getElem_toArray, List.getElem_cons_succ, List.getElem_cons_zero, Act.put, List.setIfInBounds_toArray, List.set_cons_zero, List.set_cons_succ]
    generalize W2 = WQ at *
    refine wpAnyK_2 4 8 (by kernel_rfl) (wpOpK' rfl rfl ?_) (wpOpK' rfl rfl ?_)
    · skip
      intro K0 hK0
      refine ocallE (f := 58) (args := #[.int .i64 mo, .int .i64 Wv]) (φ := fun v W' => v = .tuple #[.agg #[.int .i64 fr.num, .int .i64 fr.den], .bool fr.ok] ∧ Chg No WQ W') (by go_simp) ((HFRA.out WQ kq).mono (fun e W' ⟨v0, v1, h1, h2, h3, h4⟩ => ⟨_, h1, by rw [h2, h3], h4⟩)) (fun v2 W2 h2 => hK0.out _ _ (HS.out W2 (kq.keep h2.2)) ?_)
      obtain ⟨rfl, k2⟩ := h2
      replace kq := kq.keep k2
      try replace bz := bz.keep k2
      clear hK0 K0 k2
      simp only [List.getElem_toArray, List.getElem_cons_succ, List.getElem_cons_zero, Act.put, List.setIfInBounds_toArray, List.set_cons_zero, List.set_cons_succ]
      generalize W2 = WQ at *
      have hS := HS.out WQ kq
      refine wpAnyK_take0 5 (.tuple #[.agg #[.int .i64 fr.num, .int .i64 fr.den], .bool fr.ok]) rfl (by kernel_rfl) (fun _ _ _ h => h) hS rfl (by intro w; go_simp) ?_
      simp only [List.getElem_toArray, List.getElem_cons_succ, List.getElem_cons_zero, Act.put, List.setIfInBounds_toArray, List.set_cons_zero, List.set_cons_succ]
      refine wpAnyK_take0 6 (.agg #[.int .i64 fr.num, .int .i64 fr.den]) rfl (by kernel_rfl) (fun _ _ _ h => h) hS rfl (by intro w; go_simp) ?_
      simp only [List.getElem_toArray, List.getElem_cons_succ, List.getElem_cons_zero, Act.put, List.setIfInBounds_toArray, List.set_cons_zero, List.set_cons_succ]
      refine wpAnyK_take0 7 (.bool fr.ok) rfl (by kernel_rfl) (fun _ _ _ h => h) hS rfl (by intro w; go_simp) ?_
      simp only [List.getElem_toArray, List.getElem_cons_succ, List.getElem_cons_zero, Act.put, List.setIfInBounds_toArray, List.set_cons_zero, List.set_cons_succ]
      clear hS
      refine wpAnyK_1 8 (by kernel_rfl) (wpOpK' rfl rfl ?_)
      intro K0 hK0
      have ka := (Chg.refl No WQ).alloc (.cells #[.int .i64 0, .int .i64 0] 46)
      have bz := BoxN.new WQ #[.int .i64 0, .int .i64 0] 46
      have hzl := kq.size
      unfold Oper.wp execOp
      go_simp
      refine hK0.out _ _ (HS.out _ (kq.keep ka)) ?_
      replace kq := kq.keep ka
      clear hK0 K0 ka
      simp only [List.setIfInBounds_toArray]
      obtain ⟨Z, hZ⟩ : ∃ Z, WQ.heap.size = Z := ⟨_, rfl⟩
      rw [hZ] at bz hzl ⊢
      clear hZ
      generalize WQ.alloc (.cells #[.int .i64 0, .int .i64 0] 46) = WQ at *
      refine wpAnyK_tail 9 rfl (by kernel_rfl) ?_
      simp only [List.drop_succ_cons, List.drop_zero]
      have hy5 := c11.lt
      have hr5 := b3'.lt
      have e0 := bz.c 0 _ rfl
      have e1 := bz.c 1 _ rfl
      have f0 := bz.fr 0
      have f1 := bz.fr 1
      have bz8 := (bz.set (i := 0) (by simp) (.int .i64 fr.num)).set (i := 1) (by simp) (.int .i64 fr.den)
      have kq8 := (kq.setCell (p := ⟨Z, 0, none⟩) (fun e => by simp at e; omega) (.int .i64 fr.num)).setCell (p := ⟨Z, 1, none⟩) (fun e => by simp at e; omega) (.int .i64 fr.den)
      go_wp2_with fail
      clear e0 e1 f0 f1 bz kq HS HTOT HFRA
      generalize (WQ.setCell ⟨Z, 0, none⟩ (.int .i64 fr.num)).setCell ⟨Z, 1, none⟩ (.int .i64 fr.den) = W8 at bz8 kq8 ⊢
      refine wp_region_K (S := fun W => W.cell? ⟨Y, 0, none⟩ = some (.slice ba bm bc) ∧ W.cell? ⟨Z, 0, none⟩ = some (.int .i64 fr.num) ∧ W.cell? ⟨Z, 1, none⟩ = some (.int .i64 fr.den)) (k := 4) (by kernel_rfl) ?_
      have kd := drewN0 W8
      replace kq8 := kq8.keep kd
      replace bz8 := bz8.keep kd
      clear kd
      generalize World.drew W8 = W9 at bz8 kq8 ⊢
      have hS : W9.cell? ⟨Y, 0, none⟩ = some (.slice ba bm bc) ∧ W9.cell? ⟨Z, 0, none⟩ = some (.int .i64 fr.num) ∧ W9.cell? ⟨Z, 1, none⟩ = some (.int .i64 fr.den) := ⟨(c11.keep kq8).c 0 _ rfl, bz8.c 0 _ rfl, bz8.c 1 _ rfl⟩
      refine wpAnyK_take 0 (.slice ba bm bc) rfl (by kernel_rfl) (fun _ _ _ h => h) hS rfl (by intro w hSw; go_simp) ?_
      simp only [List.getElem_toArray, List.getElem_cons_zero, Act.put, List.setIfInBounds_toArray, List.set_cons_zero, List.set_cons_succ]
      refine wpAnyK_takeT 1 (.agg #[.int .i64 fr.num, .int .i64 fr.den]) rfl (by kernel_rfl) (fun _ _ _ h => h) hS rfl (by intro w hSw; go_simp) ?_
      simp only [List.getElem_toArray, List.getElem_cons_succ, List.getElem_cons_zero, Act.put, List.setIfInBounds_toArray, List.set_cons_zero, List.set_cons_succ]
      refine wpAnyK_take0 2 (.bool fr.ok) rfl (by kernel_rfl) (fun _ _ _ h => h) hS rfl (by intro w; go_simp) ?_
      simp only [List.getElem_toArray, List.getElem_cons_succ, List.getElem_cons_zero, Act.put, List.setIfInBounds_toArray, List.set_cons_zero, List.set_cons_succ]
      refine wpAnyK_take0 3 (.slice ba bm bc) rfl (by kernel_rfl) (fun _ _ _ h => h) hS rfl (by intro w; go_simp) ?_
      simp only [List.getElem_toArray, List.getElem_cons_succ, List.getElem_cons_zero, Act.put, List.setIfInBounds_toArray, List.set_cons_zero, List.set_cons_succ]
      refine wpAnyK_tail 4 rfl (by kernel_rfl) ?_
      simp only [List.drop_succ_cons, List.drop_zero]
      have b39 := b3'.keep kq8
      have e0 := b39.c 0 _ rfl
      have e1 := b39.c 1 _ rfl
      have f0 := b39.fr 0
      have f1 := b39.fr 1
      have bf := (b39.set (i := 0) (by simp) (.int .i64 fr.num)).set (i := 1) (by simp) (.int .i64 fr.den)
      have z0 := bf.c 0 _ rfl
      have z1 := bf.c 1 _ rfl
      have HF := Lib.hid (((kk5.keep kq8).setCell (p := ⟨R + 1 + 1 + 1, 0, none⟩) (fun e => by have := HR.out; simp at e; omega) (.int .i64 fr.num)).setCell (p := ⟨R + 1 + 1 + 1, 1, none⟩) (fun e => by have := HR.out; simp at e; omega) (.int .i64 fr.den))
      clear hS bz8 kq8 b39 bf
      go_wp2_with fail
      refine bodyPost_ret (v := .tuple #[.slice ba bm bc, .agg #[.int .i64 fr.num, .int .i64 fr.den], .bool fr.ok]) (by simp [results, Try.results34, go_sem, z0, z1]) rfl ?_
      first
        | exact ⟨_, mo, by rw [HEND.out.1], HEND.out.2.1, HEND.out.2.2.1, HEND.out.2.2.2, HF.out⟩
        | (refine ⟨_, mo, ?_, HEND.out.2.1, HEND.out.2.2.1, HEND.out.2.2.2, HF.out⟩; rw [HEND.out.1])
    · skip
      intro K0 hK0
      have ka := (Chg.refl No WQ).alloc (.cells #[.int .i64 0, .int .i64 0] 46)
      have bz := BoxN.new WQ #[.int .i64 0, .int .i64 0] 46
      have hzl := kq.size
      unfold Oper.wp execOp
      go_simp
      refine hK0.out _ _ (HS.out _ (kq.keep ka)) ?_
      replace kq := kq.keep ka
      clear hK0 K0 ka
      simp only [List.setIfInBounds_toArray]
      obtain ⟨Z, hZ⟩ : ∃ Z, WQ.heap.size = Z := ⟨_, rfl⟩
      rw [hZ] at bz hzl ⊢
      clear hZ
      generalize WQ.alloc (.cells #[.int .i64 0, .int .i64 0] 46) = WQ at *
      refine wpAnyK_1 4 (by kernel_rfl) (wpOpK' rfl rfl ?_)
      intro K0 hK0
      refine ocallE (f := 58) (args := #[.int .i64 mo, .int .i64 Wv]) (φ := fun v W' => v = .tuple #[.agg #[.int .i64 fr.num, .int .i64 fr.den], .bool fr.ok] ∧ Chg No WQ W') (by go_simp) ((HFRA.out WQ kq).mono (fun e W' ⟨v0, v1, h1, h2, h3, h4⟩ => ⟨_, h1, by rw [h2, h3], h4⟩)) (fun v2 W2 h2 => hK0.out _ _ (HS.out W2 (kq.keep h2.2)) ?_)
      obtain ⟨rfl, k2⟩ := h2
      replace kq := kq.keep k2
      try replace bz := bz.keep k2
      clear hK0 K0 k2
      simp only [List.getElem_toArray, List.getElem_cons_succ, List.getElem_cons_zero, Act.put, List.setIfInBounds_toArray, List.set_cons_zero, List.set_cons_succ]
      generalize W2 = WQ at *
      have hS := HS.out WQ kq
      refine wpAnyK_take0 5 (.tuple #[.agg #[.int .i64 fr.num, .int .i64 fr.den], .bool fr.ok]) rfl (by kernel_rfl) (fun _ _ _ h => h) hS rfl (by intro w; go_simp) ?_
      simp only [List.getElem_toArray, List.getElem_cons_succ, List.getElem_cons_zero, Act.put, List.setIfInBounds_toArray, List.set_cons_zero, List.set_cons_succ]
      refine wpAnyK_take0 6 (.agg #[.int .i64 fr.num, .int .i64 fr.den]) rfl (by kernel_rfl) (fun _ _ _ h => h) hS rfl (by intro w; go_simp) ?_
      simp only [List.getElem_toArray, List.getElem_cons_succ, List.getElem_cons_zero, Act.put, List.setIfInBounds_toArray, List.set_cons_zero, List.set_cons_succ]
      refine wpAnyK_take0 7 (.bool fr.ok) rfl (by kernel_rfl) (fun _ _ _ h => h) hS rfl (by intro w; go_simp) ?_
      simp only [List.getElem_toArray, List.getElem_cons_succ, List.getElem_cons_zero, Act.put, List.setIfInBounds_toArray, List.set_cons_zero, List.set_cons_succ]
      clear hS
      refine wpAnyK_tail 9 rfl (by kernel_rfl) ?_
      simp only [List.drop_succ_cons, List.drop_zero]
      have hy5 := c11.lt
      have hr5 := b3'.lt
      have e0 := bz.c 0 _ rfl
      have e1 := bz.c 1 _ rfl
      have f0 := bz.fr 0
      have f1 := bz.fr 1
      have bz8 := (bz.set (i := 0) (by simp) (.int .i64 fr.num)).set (i := 1) (by simp) (.int .i64 fr.den)
      have kq8 := (kq.setCell (p := ⟨Z, 0, none⟩) (fun e => by simp at e; omega) (.int .i64 fr.num)).setCell (p := ⟨Z, 1, none⟩) (fun e => by simp at e; omega) (.int .i64 fr.den)
      go_wp2_with fail
      clear e0 e1 f0 f1 bz kq HS HTOT HFRA
      generalize (WQ.setCell ⟨Z, 0, none⟩ (.int .i64 fr.num)).setCell ⟨Z, 1, none⟩ (.int .i64 fr.den) = W8 at bz8 kq8 ⊢
      refine wp_region_K (S := fun W => W.cell? ⟨Y, 0, none⟩ = some (.slice ba bm bc) ∧ W.cell? ⟨Z, 0, none⟩ = some (.int .i64 fr.num) ∧ W.cell? ⟨Z, 1, none⟩ = some (.int .i64 fr.den)) (k := 4) (by kernel_rfl) ?_
      have kd := drewN0 W8
      replace kq8 := kq8.keep kd
      replace bz8 := bz8.keep kd
      clear kd
      generalize World.drew W8 = W9 at bz8 kq8 ⊢
      have hS : W9.cell? ⟨Y, 0, none⟩ = some (.slice ba bm bc) ∧ W9.cell? ⟨Z, 0, none⟩ = some (.int .i64 fr.num) ∧ W9.cell? ⟨Z, 1, none⟩ = some (.int .i64 fr.den) := ⟨(c11.keep kq8).c 0 _ rfl, bz8.c 0 _ rfl, bz8.c 1 _ rfl⟩
      refine wpAnyK_take 0 (.slice ba bm bc) rfl (by kernel_rfl) (fun _ _ _ h => h) hS rfl (by intro w hSw; go_simp) ?_
      simp only [List.getElem_toArray, List.getElem_cons_zero, Act.put, List.setIfInBounds_toArray, List.set_cons_zero, List.set_cons_succ]
      refine wpAnyK_takeT 1 (.agg #[.int .i64 fr.num, .int .i64 fr.den]) rfl (by kernel_rfl) (fun _ _ _ h => h) hS rfl (by intro w hSw; go_simp) ?_
      simp only [List.getElem_toArray, List.getElem_cons_succ, List.getElem_cons_zero, Act.put, List.setIfInBounds_toArray, List.set_cons_zero, List.set_cons_succ]
      refine wpAnyK_take0 2 (.bool fr.ok) rfl (by kernel_rfl) (fun _ _ _ h => h) hS rfl (by intro w; go_simp) ?_
      simp only [List.getElem_toArray, List.getElem_cons_succ, List.getElem_cons_zero, Act.put, List.setIfInBounds_toArray, List.set_cons_zero, List.set_cons_succ]
      refine wpAnyK_take0 3 (.slice ba bm bc) rfl (by kernel_rfl) (fun _ _ _ h => h) hS rfl (by intro w; go_simp) ?_
      simp only [List.getElem_toArray, List.getElem_cons_succ, List.getElem_cons_zero, Act.put, List.setIfInBounds_toArray, List.set_cons_zero, List.set_cons_succ]
      refine wpAnyK_tail 4 rfl (by kernel_rfl) ?_
      simp only [List.drop_succ_cons, List.drop_zero]
      have b39 := b3'.keep kq8
      have e0 := b39.c 0 _ rfl
      have e1 := b39.c 1 _ rfl
      have f0 := b39.fr 0
      have f1 := b39.fr 1
      have bf := (b39.set (i := 0) (by simp) (.int .i64 fr.num)).set (i := 1) (by simp) (.int .i64 fr.den)
      have z0 := bf.c 0 _ rfl
      have z1 := bf.c 1 _ rfl
      have HF := Lib.hid (((kk5.keep kq8).setCell (p := ⟨R + 1 + 1 + 1, 0, none⟩) (fun e => by have := HR.out; simp at e; omega) (.int .i64 fr.num)).setCell (p := ⟨R + 1 + 1 + 1, 1, none⟩) (fun e => by have := HR.out; simp at e; omega) (.int .i64 fr.den))
      clear hS bz8 kq8 b39 bf
      go_wp2_with fail
      refine bodyPost_ret (v := .tuple #[.slice ba bm bc, .agg #[.int .i64 fr.num, .int .i64 fr.den], .bool fr.ok]) (by simp [results, Try.results34, go_sem, z0, z1]) rfl ?_
      first
        | exact ⟨_, mo, by rw [HEND.out.1], HEND.out.2.1, HEND.out.2.2.1, HEND.out.2.2.2, HF.out⟩
        | (refine ⟨_, mo, ?_, HEND.out.2.1, HEND.out.2.2.1, HEND.out.2.2.2, HF.out⟩; rw [HEND.out.1])
  · skip
    intro K0 hK0
    have ka := (Chg.refl No WQ).alloc (.cells #[.int .i64 0, .int .i64 0] 46)
    have bz := BoxN.new WQ #[.int .i64 0, .int .i64 0] 46
    have hzl := kq.size
    unfold Oper.wp execOp
    go_simp
    refine hK0.out _ _ (HS.out _ (kq.keep ka)) ?_
    replace kq := kq.keep ka
    clear hK0 K0 ka
    simp only [List.setIfInBounds_toArray]
    obtain ⟨Z, hZ⟩ : ∃ Z, WQ.heap.size = Z := ⟨_, rfl⟩
    rw [hZ] at bz hzl ⊢
    clear hZ
    generalize WQ.alloc (.cells #[.int .i64 0, .int .i64 0] 46) = WQ at *
    refine wpAnyK_1 3 (by kernel_rfl) (wpOpK' rfl rfl ?_)
    intro K0 hK0
    refine ocallE (f := 55) (args := #[.slice wa ws.length wc]) (φ := fun v W' => v = .int .i64 Wv ∧ Chg No WQ W') (by go_simp) ((HTOT.out WQ kq).mono (fun e W' ⟨h1, h2⟩ => ⟨_, h1, rfl, h2 ▸ Chg.refl _ _⟩)) (fun v2 W2 h2 => hK0.out _ _ (HS.out W2 (kq.keep h2.2)) ?_)
    obtain ⟨rfl, k2⟩ := h2
    replace kq := kq.keep k2
    try replace bz := bz.keep k2
    clear hK0 K0 k2
    simp only [List.getElem_toArray, List.getElem_cons_succ, List.getElem_cons_zero, Act.put, List.setIfInBounds_toArray, List.set_cons_zero, List.set_cons_succ]
    generalize W2 = WQ at *
    refine wpAnyK_1 4 (by kernel_rfl) (wpOpK' rfl rfl ?_)
    intro K0 hK0
    refine ocallE (f := 58) (args := #[.int .i64 mo, .int .i64 Wv]) (φ := fun v W' => v = .tuple #[.agg #[.int .i64 fr.num, .int .i64 fr.den], .bool fr.ok] ∧ Chg No WQ W') (by go_simp) ((HFRA.out WQ kq).mono (fun e W' ⟨v0, v1, h1, h2, h3, h4⟩ => ⟨_, h1, by rw [h2, h3], h4⟩)) (fun v2 W2 h2 => hK0.out _ _ (HS.out W2 (kq.keep h2.2)) ?_)
    obtain ⟨rfl, k2⟩ := h2
    replace kq := kq.keep k2
    try replace bz := bz.keep k2
    clear hK0 K0 k2
    simp only [List.getElem_toArray, List.getElem_cons_succ, List.getElem_cons_zero, Act.put, List.setIfInBounds_toArray, List.set_cons_zero, List.set_cons_succ]
    generalize W2 = WQ at *
    have hS := HS.out WQ kq
    refine wpAnyK_take0 5 (.tuple #[.agg #[.int .i64 fr.num, .int .i64 fr.den], .bool fr.ok]) rfl (by kernel_rfl) (fun _ _ _ h => h) hS rfl (by intro w; go_simp) ?_
    simp only [List.getElem_toArray, List.getElem_cons_succ, List.getElem_cons_zero, Act.put, List.setIfInBounds_toArray, List.set_cons_zero, List.set_cons_succ]
    refine wpAnyK_take0 6 (.agg #[.int .i64 fr.num, .int .i64 fr.den]) rfl (by kernel_rfl) (fun _ _ _ h => h) hS rfl (by intro w; go_simp) ?_
    simp only [List.getElem_toArray, List.getElem_cons_succ, List.getElem_cons_zero, Act.put, List.setIfInBounds_toArray, List.set_cons_zero, List.set_cons_succ]
    refine wpAnyK_take0 7 (.bool fr.ok) rfl (by kernel_rfl) (fun _ _ _ h => h) hS rfl (by intro w; go_simp) ?_
    simp only [List.getElem_toArray, List.getElem_cons_succ, List.getElem_cons_zero, Act.put, List.setIfInBounds_toArray, List.set_cons_zero, List.set_cons_succ]
    clear hS
    refine wpAnyK_tail 9 rfl (by kernel_rfl) ?_
    simp only [List.drop_succ_cons, List.drop_zero]
    have hy5 := c11.lt
    have hr5 := b3'.lt
    have e0 := bz.c 0 _ rfl
    have e1 := bz.c 1 _ rfl
    have f0 := bz.fr 0
    have f1 := bz.fr 1
    have bz8 := (bz.set (i := 0) (by simp) (.int .i64 fr.num)).set (i := 1) (by simp) (.int .i64 fr.den)
    have kq8 := (kq.setCell (p := ⟨Z, 0, none⟩) (fun e => by simp at e; omega) (.int .i64 fr.num)).setCell (p := ⟨Z, 1, none⟩) (fun e => by simp at e; omega) (.int .i64 fr.den)
    go_wp2_with fail
    clear e0 e1 f0 f1 bz kq HS HTOT HFRA
    generalize (WQ.setCell ⟨Z, 0, none⟩ (.int .i64 fr.num)).setCell ⟨Z, 1, none⟩ (.int .i64 fr.den) = W8 at bz8 kq8 ⊢
    refine wp_region_K (S := fun W => W.cell? ⟨Y, 0, none⟩ = some (.slice ba bm bc) ∧ W.cell? ⟨Z, 0, none⟩ = some (.int .i64 fr.num) ∧ W.cell? ⟨Z, 1, none⟩ = some (.int .i64 fr.den)) (k := 4) (by kernel_rfl) ?_
    have kd := drewN0 W8
    replace kq8 := kq8.keep kd
    replace bz8 := bz8.keep kd
    clear kd
    generalize World.drew W8 = W9 at bz8 kq8 ⊢
    have hS : W9.cell? ⟨Y, 0, none⟩ = some (.slice ba bm bc) ∧ W9.cell? ⟨Z, 0, none⟩ = some (.int .i64 fr.num) ∧ W9.cell? ⟨Z, 1, none⟩ = some (.int .i64 fr.den) := ⟨(c11.keep kq8).c 0 _ rfl, bz8.c 0 _ rfl, bz8.c 1 _ rfl⟩
    refine wpAnyK_take 0 (.slice ba bm bc) rfl (by kernel_rfl) (fun _ _ _ h => h) hS rfl (by intro w hSw; go_simp) ?_
    simp only [List.getElem_toArray, List.getElem_cons_zero, Act.put, List.setIfInBounds_toArray, List.set_cons_zero, List.set_cons_succ]
    refine wpAnyK_takeT 1 (.agg #[.int .i64 fr.num, .int .i64 fr.den]) rfl (by kernel_rfl) (fun _ _ _ h => h) hS rfl (by intro w hSw; go_simp) ?_
    simp only [List.getElem_toArray, List.getElem_cons_succ, List.getElem_cons_zero, Act.put, List.setIfInBounds_toArray, List.set_cons_zero, List.set_cons_succ]
    refine wpAnyK_take0 2 (.bool fr.ok) rfl (by kernel_rfl) (fun _ _ _ h => h) hS rfl (by intro w; go_simp) ?_
    simp only [List.getElem_toArray, List.getElem_cons_succ, List.getElem_cons_zero, Act.put, List.setIfInBounds_toArray, List.set_cons_zero, List.set_cons_succ]
    refine wpAnyK_take0 3 (.slice ba bm bc) rfl (by kernel_rfl) (fun _ _ _ h => h) hS rfl (by intro w; go_simp) ?_
    simp only [List.getElem_toArray, List.getElem_cons_succ, List.getElem_cons_zero, Act.put, List.setIfInBounds_toArray, List.set_cons_zero, List.set_cons_succ]
    refine wpAnyK_tail 4 rfl (by kernel_rfl) ?_
    simp only [List.drop_succ_cons, List.drop_zero]
    have b39 := b3'.keep kq8
    have e0 := b39.c 0 _ rfl
    have e1 := b39.c 1 _ rfl
    have f0 := b39.fr 0
    have f1 := b39.fr 1
    have bf := (b39.set (i := 0) (by simp) (.int .i64 fr.num)).set (i := 1) (by simp) (.int .i64 fr.den)
    have z0 := bf.c 0 _ rfl
    have z1 := bf.c 1 _ rfl
    have HF := Lib.hid (((kk5.keep kq8).setCell (p := ⟨R + 1 + 1 + 1, 0, none⟩) (fun e => by have := HR.out; simp at e; omega) (.int .i64 fr.num)).setCell (p := ⟨R + 1 + 1 + 1, 1, none⟩) (fun e => by have := HR.out; simp at e; omega) (.int .i64 fr.den))
    clear hS bz8 kq8 b39 bf
    go_wp2_with fail
    refine bodyPost_ret (v := .tuple #[.slice ba bm bc, .agg #[.int .i64 fr.num, .int .i64 fr.den], .bool fr.ok]) (by simp [results, Try.results34, go_sem, z0, z1]) rfl ?_
    first
      | exact ⟨_, mo, by rw [HEND.out.1], HEND.out.2.1, HEND.out.2.2.1, HEND.out.2.2.2, HF.out⟩
      | (refine ⟨_, mo, ?_, HEND.out.2.1, HEND.out.2.2.1, HEND.out.2.2.2, HF.out⟩; rw [HEND.out.1])
end Go.Proofs.Ytndhijckbponkaa
