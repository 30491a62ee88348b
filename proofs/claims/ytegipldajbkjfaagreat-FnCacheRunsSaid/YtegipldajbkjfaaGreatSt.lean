import Derived.Test.YtegipldajbkjfaaGreatVo
/- StepCache, both sides -/
namespace Go.Proofs.YtegipldajbkjfaaGreat
open Go.RowKit

def stepV (n : Int) (c : Ca) (x : Int) : Ca := if okB n c x then stepC c x else zeroC
theorem RCO.put5 {base : Nat} {w : World} {v : Value} {c : Ca} (h : RCO base w v c) {b : Nat} (hb : b < base) (x0 x1 x2 x3 x4 : Value) :
    RCO base (((((w.setCell ⟨b, 0, none⟩ x0).setCell ⟨b, 1, none⟩ x1).setCell ⟨b, 2, none⟩ x2).setCell ⟨b, 3, none⟩ x3).setCell ⟨b, 4, none⟩ x4) v c :=
  h.step ((Chg.refl (fun k => k = b) w).put5 (fun _ => rfl) x0 x1 x2 x3 x4) (fun q hq e => by have := (h.lt q hq).1; omega)
theorem Ret2.tup {φ : Value → Value → World → Prop} {a b : Value} {w : World} (h : φ a b w) : Ret2 φ (.returned (.tuple #[a, b])) w := ⟨a, b, rfl, h⟩

set_option maxRecDepth 100000 in
set_option maxHeartbeats 1000000 in
theorem specStepCache_any (n x : Int) (v : Value) (c : Ca) (w : World) (h : RC No w v c) :
    Calls Tryz.prog 11 #[.int .i64 n, v, .int .i64 x] w (Ret2 fun v0 v1 w' => v1 = .bool (okB n c x) ∧ RCO w.heap.size w' v0 (stepV n c x) ∧ Chg No w w') := by
  have hv := h
  obtain ⟨pv, mv, rfl, hp, hmk⟩ := h
  obtain ⟨pa, pn, pc, rfl⟩ := hp.shape
  obtain ⟨ma, mn, mc, rfl⟩ := hmk.shape
  cases hg : goodC n c
  · have HO : Hid (okB n c x = false) := Lib.hid (by simp [okB, hg])
    have HV : Hid (stepV n c x = zeroC) := Lib.hid (by simp [stepV, okB, hg])
    have HG := Lib.hid hg
    clear hg
    go_enter Tryz.func11, Tryz.ntmps11
    go_wp2_with fail
    refine boxes2 (R := fun W => Calls _ _ _ W _) (fun W hW b0 b1 => ?_)
    refine (l4Good_any No n _ c _ (hv.keep hW)).mono ?_
    rintro e w1 ⟨_, rfl, rfl, k1⟩
    rw [HG.out]
    have B1 := b1.keep k1
    have hk := hW.keep k1
    have hl1 := B1.lt
    obtain ⟨s0, s1, s2, s3, s4, sf⟩ := id B1
    have sf0 := sf 0
    have sf1 := sf 1
    have sf2 := sf 2
    have sf3 := sf 3
    have sf4 := sf 4
    clear sf
    go_wp2_with fail
    obtain ⟨z0, z1, z2, z3, z4, _⟩ := B1.put5 (.int .i64 0) (.int .i64 0) (.slice none 0 0) (.slice none 0 0) (.int .i64 0)
    refine bodyPost_ret (v := .tuple #[.agg #[.int .i64 0, .int .i64 0, .slice none 0 0, .slice none 0 0, .int .i64 0], .bool false]) (by simp [results, Tryz.results11, go_sem, z0, z1, z2, z3, z4]) rfl ?_
    refine Ret2.tup ⟨by rw [HO.out], by rw [HV.out]; exact RCO.zero _ _, hk.put5 (b := w.heap.size + 1) (fun h => by omega) _ _ _ _ _⟩
  · have hn := goodC_items hg
    have hw1 : IntKind.i64.wrap (n - 1) = n - 1 := IntWalk.i64_in _ (by omega)
    cases hi : inB x 0 (n - 1)
    · have HO : Hid (okB n c x = false) := Lib.hid (by simp [okB, hi])
      have HV : Hid (stepV n c x = zeroC) := Lib.hid (by simp [stepV, okB, hi])
      have HG := Lib.hid hg
      have HI := Lib.hid hi
      clear hg hi hn
      go_enter Tryz.func11, Tryz.ntmps11
      go_wp2_with fail
      refine boxes2 (R := fun W => Calls _ _ _ W _) (fun W hW b0 b1 => ?_)
      refine (l4Good_any No n _ c _ (hv.keep hW)).mono ?_
      rintro e w1 ⟨_, rfl, rfl, k1⟩
      rw [HG.out]
      have B1 := b1.keep k1
      have hk := hW.keep k1
      have hl1 := B1.lt
      go_wp2_with fail
      refine (l1In_any _ _ _ _).mono ?_
      rintro e w2 ⟨rfl, rfl⟩
      rw [HI.out]
      obtain ⟨s0, s1, s2, s3, s4, sf⟩ := id B1
      have sf0 := sf 0
      have sf1 := sf 1
      have sf2 := sf 2
      have sf3 := sf 3
      have sf4 := sf 4
      clear sf
      go_wp2_with fail
      obtain ⟨z0, z1, z2, z3, z4, _⟩ := B1.put5 (.int .i64 0) (.int .i64 0) (.slice none 0 0) (.slice none 0 0) (.int .i64 0)
      refine bodyPost_ret (v := .tuple #[.agg #[.int .i64 0, .int .i64 0, .slice none 0 0, .slice none 0 0, .int .i64 0], .bool false]) (by simp [results, Tryz.results11, go_sem, z0, z1, z2, z3, z4]) rfl ?_
      refine Ret2.tup ⟨by rw [HO.out], by rw [HV.out]; exact RCO.zero _ _, hk.put5 (b := w.heap.size + 1) (fun h => by omega) _ _ _ _ _⟩
    · have HO : Hid (okB n c x = true) := Lib.hid (by simp [okB, hg, hi])
      have HV : Hid (stepV n c x = stepC c x) := Lib.hid (by simp [stepV, okB, hg, hi])
      have HG := Lib.hid hg
      have HI := Lib.hid hi
      clear hg hi hn
      go_enter Tryz.func11, Tryz.ntmps11
      go_wp2_with fail
      refine boxes2 (R := fun W => Calls _ _ _ W _) (fun W hW b0 b1 => ?_)
      refine (l4Good_any No n _ c _ (hv.keep hW)).mono ?_
      rintro e w1 ⟨_, rfl, rfl, k1⟩
      rw [HG.out]
      obtain ⟨c0, c1, c2, c3, c4, fr⟩ := b0.keep k1
      have B1 := b1.keep k1
      have hk := hW.keep k1
      go_wp2_with fail
      refine (l1In_any _ _ _ _).mono ?_
      rintro e w2 ⟨rfl, rfl⟩
      rw [HI.out]
      go_wp2_with fail
      refine (l4Step_any No _ c x _ (hv.keep hk) (Bd.no _) (goodC_ok HG.out)).mono ?_
      rintro e w3 ⟨v3, rfl, r3, k3⟩
      have B1 := B1.keep k3
      have hk := hk.keep k3
      clear c0 c1 c2 c3 c4 fr
      go_wp2_with fail
      refine (l4Copy_any No _ _ _ r3).mono ?_
      rintro e w4 ⟨v4, rfl, o4, k4⟩
      have hl1 := B1.lt
      have B1 := B1.keep k4
      have hk := hk.keep k4
      have o4' := o4
      obtain ⟨xp, xm, rfl, hxp, hxm, _⟩ := id o4
      obtain ⟨xa, xn, xc, rfl⟩ := hxp.shape
      obtain ⟨ya, yn, yc, rfl⟩ := hxm.shape
      generalize stepC c x = cc at HV o4 o4' ⊢
      obtain ⟨s0, s1, s2, s3, s4, sf⟩ := id B1
      have sf0 := sf 0
      have sf1 := sf 1
      have sf2 := sf 2
      have sf3 := sf 3
      have sf4 := sf 4
      clear sf
      go_wp2_with fail
      obtain ⟨z0, z1, z2, z3, z4, _⟩ := B1.put5 (.int .i64 cc.pol) (.int .i64 cc.size) (.slice xa xn xc) (.slice ya yn yc) (.int .i64 cc.hand)
      refine bodyPost_ret (v := .tuple #[.agg #[.int .i64 cc.pol, .int .i64 cc.size, .slice xa xn xc, .slice ya yn yc, .int .i64 cc.hand], .bool true]) (by simp [results, Tryz.results11, go_sem, z0, z1, z2, z3, z4]) rfl ?_
      have hs := hk.size
      have hs4 := k4.size
      refine Ret2.tup ⟨by rw [HO.out], by rw [HV.out]; exact (o4'.put5 hl1 _ _ _ _ _).weak (by omega), hk.put5 (b := w.heap.size + 1) (fun h => by omega) _ _ _ _ _⟩

set_option maxRecDepth 100000 in
set_option maxHeartbeats 1000000 in
theorem implStepCache_any (n x : Int) (v : Value) (c : Ca) (w : World) (h : RC No w v c) :
    Calls Tryz.prog 10 #[.int .i64 n, v, .int .i64 x] w (Ret2 fun v0 v1 w' => v1 = .bool (okB n c x) ∧ RCO w.heap.size w' v0 (stepV n c x) ∧ Chg No w w') := by
  have hv := h
  obtain ⟨p, k, ps, m, hd⟩ := c
  obtain ⟨pv, mv, rfl, hp, hmk⟩ := h
  simp only at hp hmk hv
  obtain ⟨pa, pn, pc, rfl⟩ := hp.shape
  obtain ⟨ma, mn, mc, rfl⟩ := hmk.shape
  cases ho : okB n ⟨p, k, ps, m, hd⟩ x
  · have HV : Hid (stepV n ⟨p, k, ps, m, hd⟩ x = zeroC) := Lib.hid (by simp [stepV, ho])
    have HO := Lib.hid ho
    clear ho
    go_enter Tryz.func10, Tryz.ntmps10
    go_wp2_with fail
    refine boxes2 (R := fun W => Calls _ _ _ W _) (fun W hW b0 b1 => ?_)
    refine (isCached_any No n x _ ⟨p, k, ps, m, hd⟩ _ (hv.keep hW)).mono ?_
    rintro e w1 ⟨_, rfl, rfl, k1⟩
    rw [HO.out]
    have B1 := b1.keep k1
    have hk := hW.keep k1
    have hl1 := B1.lt
    obtain ⟨s0, s1, s2, s3, s4, sf⟩ := id B1
    have sf0 := sf 0
    have sf1 := sf 1
    have sf2 := sf 2
    have sf3 := sf 3
    have sf4 := sf 4
    clear sf
    go_wp2_with fail
    obtain ⟨z0, z1, z2, z3, z4, _⟩ := B1.put5 (.int .i64 0) (.int .i64 0) (.slice none 0 0) (.slice none 0 0) (.int .i64 0)
    refine bodyPost_ret (v := .tuple #[.agg #[.int .i64 0, .int .i64 0, .slice none 0 0, .slice none 0 0, .int .i64 0], .bool false]) (by simp [results, Tryz.results10, go_sem, z0, z1, z2, z3, z4]) rfl ?_
    refine Ret2.tup ⟨rfl, by rw [HV.out]; exact RCO.zero _ _, hk.put5 (b := w.heap.size + 1) (fun h => by omega) _ _ _ _ _⟩
  · have hgd : goodC n ⟨p, k, ps, m, hd⟩ = true := by simp only [okB, Bool.and_eq_true] at ho; exact ho.1
    have HV : Hid (stepV n ⟨p, k, ps, m, hd⟩ x = stepC ⟨p, k, ps, m, hd⟩ x) := Lib.hid (by rw [stepV, if_pos ho])
    have HO := Lib.hid ho
    have HG := Lib.hid hgd
    clear ho hgd
    go_enter Tryz.func10, Tryz.ntmps10
    go_wp2_with fail
    refine boxes2 (R := fun W => Calls _ _ _ W _) (fun W hW b0 b1 => ?_)
    refine (isCached_any No n x _ ⟨p, k, ps, m, hd⟩ _ (hv.keep hW)).mono ?_
    rintro e w1 ⟨_, rfl, rfl, k1⟩
    rw [HO.out]
    have B1 := b1.keep k1
    have hk := hW.keep k1
    obtain ⟨c0, c1, c2, c3, c4, fr⟩ := b0.keep k1
    go_wp2_with fail
    refine (ownCache_any No _ ⟨p, k, ps, m, hd⟩ _ (hv.keep hk)).mono ?_
    rintro e w2 ⟨v2, rfl, o2, k2⟩
    have o2' := o2
    obtain ⟨pv2, mv2, rfl, hp2, hm2, _⟩ := o2
    obtain ⟨a2, n2, q2, rfl⟩ := hp2.shape
    obtain ⟨a3, n3, q3, rfl⟩ := hm2.shape
    have hl1 := B1.lt
    have B1 := B1.keep k2
    have hk := hk.keep k2
    clear c0 c1 c2 c3 c4 fr
    go_wp2_with fail
    have kal := (Chg.refl No w2).alloc (.cells #[.int .i64 p, .int .i64 k, .slice a2 n2 q2, .slice a3 n3 q3, .int .i64 hd] 26)
    have mc := o2'.mc kal (Box.new w2 _ _ _ _ _ _) (Nat.le_refl _)
    have hz2 := k2.size
    have hf : ∀ q, foot w2.heap.size (.slice a2 n2 q2) (.slice a3 n3 q3) q → w1.heap.size ≤ q := fun q hq => by
      rcases hq with rfl | hq | hq
      · exact hz2
      · exact (mc.pages.lt q hq).1
      · exact (mc.marks.lt q hq).1
    have B1 := B1.keep kal
    have hk := hk.keep kal
    have hsw := hW.size
    have hs1 := k1.size
    refine (step_any w1.heap.size w2.heap.size ⟨p, k, ps, m, hd⟩ x _ _ _ mc (by rw [World.size_alloc]; omega) (goodC_ok HG.out)).mono ?_
    rintro e w3 ⟨_, rfl, rfl, pv3, mv3, mc3, k3, f3⟩
    have B1 := B1.step k3 (fun hq => by have := hf _ hq; omega)
    have hk := hk.step k3 (fun q hq hl => by have := hf _ hq; omega)
    clear mc k3 kal f3
    generalize stepC ⟨p, k, ps, m, hd⟩ x = cc at HV mc3 ⊢
    obtain ⟨a4, n4, q4, rfl⟩ := mc3.pages.shape
    obtain ⟨a5, n5, q5, rfl⟩ := mc3.marks.shape
    obtain ⟨c0, c1, c2, c3, c4, fr⟩ := id mc3.box
    go_wp2_with fail
    refine (ownCache_any No _ cc w3 ⟨_, _, rfl, mc3.pages.readNo, mc3.marks.readNo⟩).mono ?_
    rintro e w4 ⟨v4, rfl, o4, k4⟩
    have hl3 := B1.lt
    have B1 := B1.keep k4
    have hk := hk.keep k4
    have o4' := o4
    obtain ⟨xp, xm, rfl, hxp, hxm, _⟩ := id o4
    obtain ⟨xa, xn, xc, rfl⟩ := hxp.shape
    obtain ⟨ya, yn, yc, rfl⟩ := hxm.shape
    clear c0 c1 c2 c3 c4 fr
    obtain ⟨s0, s1, s2, s3, s4, sf⟩ := id B1
    have sf0 := sf 0
    have sf1 := sf 1
    have sf2 := sf 2
    have sf3 := sf 3
    have sf4 := sf 4
    clear sf
    go_wp2_with fail
    obtain ⟨z0, z1, z2, z3, z4, _⟩ := B1.put5 (.int .i64 cc.pol) (.int .i64 cc.size) (.slice xa xn xc) (.slice ya yn yc) (.int .i64 cc.hand)
    refine bodyPost_ret (v := .tuple #[.agg #[.int .i64 cc.pol, .int .i64 cc.size, .slice xa xn xc, .slice ya yn yc, .int .i64 cc.hand], .bool true]) (by simp [results, Tryz.results10, go_sem, z0, z1, z2, z3, z4]) rfl ?_
    have hs := hk.size
    refine Ret2.tup ⟨rfl, by rw [HV.out]; exact (o4'.put5 hl3 _ _ _ _ _).weak (by omega), hk.put5 (b := w.heap.size + 1) (fun h => by omega) _ _ _ _ _⟩
end Go.Proofs.YtegipldajbkjfaaGreat
