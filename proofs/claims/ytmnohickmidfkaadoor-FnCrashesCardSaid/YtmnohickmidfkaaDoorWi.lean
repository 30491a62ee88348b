import Derived.Test.YtmnohickmidfkaaDoorWh
import Derived.Deep.CutRange
/- FnLogs: the law -/
namespace Go.Proofs.YtmnohickmidfkaaDoor
open Go.RowKit

theorem app_go {d p : List UInt8} {n : Int} {c r P : List UInt8} {N : Int} (hP : appP d p n c r = P) (hN : appN d p n c r = N) (hs : appS d p n c r = 0) :
    validB d p n = true ∧ validB d P N = true ∧ ∃ x, recL d P N = recL d p n ++ [(c, r, x)] ∧ P.length ≤ 62000 := by
  have hok : appOk d p n c r = true := by
    cases h : appOk d p n c r with
    | true => rfl
    | false => rw [appS, h] at hs; exact absurd hs (by simp)
  have hn60 : ¬ n = 60 := fun h => by rw [appS, hok, h] at hs; exact absurd hs (by simp)
  unfold appOk at hok
  simp only [Bool.and_eq_true] at hok
  obtain ⟨hv, hr⟩ := hok
  obtain ⟨h1, h2, h3, h4⟩ := valid_full hv
  have hl := openB_len 60 0 (d ++ p)
  obtain ⟨k, hk⟩ : ∃ k : Nat, n = (k : Int) := ⟨_, h4.symm⟩
  subst hk
  have hPe : P = p ++ (lineL k c r ++ [10]) := by rw [← hP, appP, if_pos hs]; rfl
  have hNe : N = (k : Int) + 1 := by rw [← hN, appN, if_pos hs]
  obtain ⟨a, b⟩ := valid_app hv (by omega) hr
  subst hPe hNe
  refine ⟨hv, a, (lineL k c r).length + 1, ?_, ?_⟩
  · unfold recL
    rw [if_pos a, if_pos hv]
    exact b
  · have := (valid_full a).1
    omega
theorem app_halt {d p : List UInt8} {n : Int} {c r P : List UInt8} {N s : Int} (hP : appP d p n c r = P) (hN : appN d p n c r = N) (hs : appS d p n c r = s) (h0 : ¬ s = 0) : P = p ∧ N = n := by
  obtain ⟨a, b⟩ := app_stop hs h0
  exact ⟨hP.symm.trans a, hN.symm.trans b⟩
theorem syncD_len (d p : List UInt8) (n : Int) : (syncD d p n).length ≤ d.length + p.length := by
  unfold syncD
  split
  · rw [List.length_append]; exact Nat.le_refl _
  · exact Nat.zero_le _
theorem recL_sync (d p : List UInt8) (n : Int) : recL (syncD d p n) [] (syncN d p n) = recL d p n := by
  cases hv : validB d p n with
  | true =>
    unfold syncD syncN
    rw [hv]
    exact (valid_sync hv).2
  | false =>
    have e1 : recL d p n = [] := by unfold recL; rw [hv]; rfl
    rw [e1]
    unfold syncD syncN
    rw [hv]
    show recL [] [] 0 = []
    decide
theorem RF.upto {A : Nat → Prop} {w : World} {a : Option Addr} {n cap sz : Nat} {cs : List Value} (T : TypeId) (hu : Tryd.prog.underlying T = some (.slice (Tryd.prog.elem T))) (hz : ∀ w, (sizeOf (Tryd.prog.elem T)).run Tryd.prog w = .ok sz w) (h : RF A w (.slice a n cap) sz n cs) (i : Nat) (hi : i ≤ n) :
    ∃ a' c', (∀ w' : World, (Instr.slice T (.slice a n cap) none (some (.int .i64 (i : Int))) none).run Tryd.prog w' = .ok (.slice a' i c') w') ∧ RF A w (.slice a' i c') sz i (cs.take (i * sz)) := by
  obtain ⟨a0, cap0, he, h1, h2, h3, h0, h4⟩ := h
  simp only [Value.slice.injEq, true_and] at he
  obtain ⟨rfl, rfl⟩ := he
  refine ⟨if cap = 0 then a else a.map (·.add (0 * sz)), cap - 0, fun w' => ?_, ?_⟩
  · rw [run_slice_h w' T a n cap hu .i64 i (by omega) (by omega), hz]
    simp [Result.andThen, sliced]
  · have hm : i * sz ≤ n * sz := Nat.mul_le_mul_right _ hi
    refine ⟨_, _, rfl, by omega, by omega, by rw [List.length_take, h3]; omega, fun hn => ?_, fun hp => ?_⟩
    · by_cases hc : cap = 0
      · omega
      · rw [if_neg hc] at hn
        have := h0 (by simpa using hn)
        omega
    · obtain ⟨b, off, rfl, hA, hb, hcell⟩ := h4 (by omega)
      refine ⟨b, off, ?_, hA, hb, fun k hk => ?_⟩
      · have : ¬ cap = 0 := by omega
        simp [this, Addr.add]
      · rw [List.length_take] at hk
        rw [hcell k (by omega), List.getD_eq_getElem?_getD, List.getD_eq_getElem?_getD, List.getElem?_take_of_lt (by omega)]
theorem und_recs : Tryd.prog.underlying 46 = some (.slice (Tryd.prog.elem 46)) := by kernel_rfl
theorem siz_recs (w : World) : (sizeOf (Tryd.prog.elem 46)).run Tryd.prog w = .ok 2 w := by kernel_rfl
theorem recC_last (L : List (List UInt8 × List UInt8 × Nat)) (c r : List UInt8) (x n : Nat) (h : L.length = n) :
    (recC (L ++ [(c, r, x)])).length = (n + 1) * 2 ∧ (recC (L ++ [(c, r, x)])).getD (n * 2) undef = .string ⟨c.toArray⟩ ∧ (recC (L ++ [(c, r, x)])).getD (n * 2 + 1) undef = .string ⟨r.toArray⟩ ∧ (recC (L ++ [(c, r, x)])).take (n * 2) = recC L := by
  subst h
  have e := recC_len L
  rw [recC_snoc]
  refine ⟨by rw [List.length_append, e]; simp; omega, ?_, ?_, ?_⟩
  · rw [List.getD_eq_getElem?_getD, List.getElem?_append_right (by omega), e]; simp
  · rw [List.getD_eq_getElem?_getD, List.getElem?_append_right (by omega), e]; simp
  · rw [← e, List.take_left']; rfl

set_option maxRecDepth 100000 in
set_option maxHeartbeats 8000000 in
theorem law_FnLogs (v : Value) (m : Nat) (w : World) (hcode : Code w v m) (hw : Lay w) :
    Calls Tryd.prog 9 #[v] w fun e w' => e = .returned (.bool true) ∧ Chg No w w' := by
  have HL := Lib.hid hw
  clear hw
  have qb := Lib.hid (vBig_any v m w hcode)
  by_cases hm : (65536 : Int) < (m : Int)
  · go_enter Tryd.func9, Tryd.ntmps9
    go_wp2_with (go_at_call 31; refine (qb.out).mono ?_; rintro e w' ⟨rfl, rfl⟩)
    go_ret
    exact ⟨rfl, Chg.refl _ _⟩
  · have hm2 : m ≤ 65536 := by omega
    have q1 := Lib.hid (DrawRec_any v m w hcode (by omega))
    have c1 : Hid (∀ W, Code W v m → Calls Tryd.prog 34 #[v, .int .i64 1] W fun e w' => ∃ v' n', e = .returned v' ∧ Code w' v' n' ∧ n' ≤ 70001 ∧ Chg No W w') := Lib.hid (fun W h => vCut_any v m 1 W h (by omega) (by omega))
    have c2 : Hid (∀ W, Code W v m → Calls Tryd.prog 34 #[v, .int .i64 2] W fun e w' => ∃ v' n', e = .returned v' ∧ Code w' v' n' ∧ n' ≤ 70001 ∧ Chg No W w') := Lib.hid (fun W h => vCut_any v m 2 W h (by omega) (by omega))
    have c3 : Hid (∀ W, Code W v m → Calls Tryd.prog 34 #[v, .int .i64 3] W fun e w' => ∃ v' n', e = .returned v' ∧ Code w' v' n' ∧ n' ≤ 70001 ∧ Chg No W w') := Lib.hid (fun W h => vCut_any v m 3 W h (by omega) (by omega))
    have q3 := Lib.hid (fun v n W h hn => DrawEnc_any v n W h hn)
    have q5 := Lib.hid (fun v n W h hn => DrawLog_any v n W h hn)
    have q6 := Lib.hid (fun v n W h hn => DrawApp_any v n W h hn)
    unfold rv at q1 q3
    unfold lv at q5
    unfold lv rv at q6
    have HCD := Lib.hid hcode
    clear hcode hm
    go_enter Tryd.func9, Tryd.ntmps9
    go_upto_region 11 with (first
      | (go_at_call 31; refine (qb.out).mono ?_; rintro e w' ⟨rfl, rfl⟩)
      | (go_at_call 32; refine (q1.out).mono ?_; rintro e w1 ⟨ec, er, rfl, hec, her, hk1⟩; have be := Box2.new w1 (.string ⟨ec.toArray⟩) (.string ⟨er.toArray⟩) 43; have kk1 := hk1.alloc (.cells #[.string ⟨ec.toArray⟩, .string ⟨er.toArray⟩] 43))
      | (go_at_call 34; first
        | (with_reducible refine (c1.out _ (HCD.out.keep kk1)).mono ?_; rintro e w2 ⟨v2, n2, rfl, hc2, hn2, hk2⟩; have be := be.keep hk2; have kk2 := kk1.trans hk2)
        | (with_reducible refine (c2.out _ (HCD.out.keep kk5)).mono ?_; rintro e w6 ⟨v6, n6, rfl, hc6, hn6, hk6⟩; have be := be.keep hk6; have kk6 := kk5.trans hk6)
        | (with_reducible refine (c3.out _ (HCD.out.keep kk7)).mono ?_; rintro e w8 ⟨v8, n8, rfl, hc8, hn8, hk8⟩; have be := be.keep hk8; have bl := bl.keep hk8; have kk8 := kk7.trans hk8))
      | (go_at_call 33; refine (q3.out _ _ _ hc2 hn2).mono ?_; rintro e w3 ⟨k, fc, fr, rfl, hkl, hkh, hfc, hfr, hk3⟩; have bf := Box2.new w3 (.string ⟨fc.toArray⟩) (.string ⟨fr.toArray⟩) 43; have a3 := (Chg.refl No w3).alloc (.cells #[.string ⟨fc.toArray⟩, .string ⟨fr.toArray⟩] 43); have be := (be.keep hk3).keep a3; have kk3 := (kk2.trans hk3).trans a3; obtain ⟨f0, f1, ff⟩ := id bf)
      | (go_at_call 35; refine (implEnc_any k fc fr _ ⟨hkl, hkh⟩ hfc hfr (HL.out.keep kk3)).mono ?_; rintro e w4 ⟨rfl, hk4⟩; have be := be.keep hk4; have bf := bf.keep hk4; have kk4 := kk3.trans hk4; clear f0 f1 ff; obtain ⟨f0, f1, ff⟩ := id bf)
      | (go_at_call 36; refine (specEnc_any k fc fr _ ⟨hkl, hkh⟩ hfc hfr).mono ?_; rintro e w5 ⟨rfl, hk5⟩; have be := be.keep hk5; have kk5 := kk4.trans hk5; clear f0 f1 ff bf)
      | (go_at_call 37; refine (q5.out _ _ _ hc6 hn6).mono ?_; rintro e w7 ⟨ld, lp, ln, rfl, hll, hk7⟩; have bl := BoxL.new w7 (.string ⟨ld.toArray⟩) (.string ⟨lp.toArray⟩) (.int .i64 ln) 23; have a7 := (Chg.refl No w7).alloc (.cells #[.string ⟨ld.toArray⟩, .string ⟨lp.toArray⟩, .int .i64 ln] 23); have be := (be.keep hk7).keep a7; have kk7 := (kk6.trans hk7).trans a7)
      | (go_at_call 38; refine (q6.out _ _ _ hc8 hn8).mono ?_; rintro e w9 ⟨d, p, n, c, r, rfl, hlen, hcl, hrl, hk9⟩; have a9 := (Chg.refl No w9).alloc (.cells #[.string ⟨d.toArray⟩, .string ⟨p.toArray⟩, .int .i64 n] 23); have b9 := (Chg.refl No (w9.alloc (.cells #[.string ⟨d.toArray⟩, .string ⟨p.toArray⟩, .int .i64 n] 23))).alloc (.cells #[.string ⟨c.toArray⟩, .string ⟨r.toArray⟩] 43); have bm := (BoxL.new w9 (.string ⟨d.toArray⟩) (.string ⟨p.toArray⟩) (.int .i64 n) 23).keep b9; have bg := Box2.new (w9.alloc (.cells #[.string ⟨d.toArray⟩, .string ⟨p.toArray⟩, .int .i64 n] 23)) (.string ⟨c.toArray⟩) (.string ⟨r.toArray⟩) 43; rw [World.size_alloc] at bg; have be := (be.keep hk9).keep (a9.trans b9); have bl := (bl.keep hk9).keep (a9.trans b9); have kk9 := (kk8.trans hk9).trans (a9.trans b9); have q10 := Lib.hid (fun W hW => implAppend_any d p n c r W (by omega) (by omega) (by omega) (by omega) hW); have q11 := Lib.hid (fun W => specAppend_any d p n c r W (by omega) (by omega) (by omega) (by omega)); unfold lv rv at q10 q11; obtain ⟨P, hP⟩ : ∃ P, appP d p n c r = P := ⟨_, rfl⟩; obtain ⟨N, hN⟩ : ∃ N, appN d p n c r = N := ⟨_, rfl⟩; obtain ⟨s, hs⟩ : ∃ s, appS d p n c r = s := ⟨_, rfl⟩; rw [hP, hN, hs] at q10 q11; have HAP := Lib.hid (And.intro hP (And.intro hN hs)); clear hP hN hs a9 b9; obtain ⟨m0, m1, m2, fm⟩ := id bm; obtain ⟨g0, g1, fg⟩ := id bg)
      | (go_at_call 25; refine (q10.out _ (HL.out.keep kk9)).mono ?_; rintro e w10 ⟨rfl, hk10⟩; have a10 := (Chg.refl No w10).alloc (.cells #[.string ⟨d.toArray⟩, .string ⟨P.toArray⟩, .int .i64 N] 23); have kx := hk10.trans a10; have be := be.keep kx; have bl := bl.keep kx; have bm := bm.keep kx; have bg := bg.keep kx; have bn := BoxL.new w10 (.string ⟨d.toArray⟩) (.string ⟨P.toArray⟩) (.int .i64 N) 23; have kk10 := kk9.trans kx; clear m0 m1 m2 fm g0 g1 fg kx a10; obtain ⟨m0, m1, m2, fm⟩ := id bm; obtain ⟨g0, g1, fg⟩ := id bg)
      | (go_at_call 23; refine (q11.out _).mono ?_; rintro e w11 ⟨rfl, hk11⟩; have a11 := (Chg.refl No w11).alloc (.cells #[.string ⟨d.toArray⟩, .string ⟨P.toArray⟩, .int .i64 N] 23); have kx := hk11.trans a11; have be := be.keep kx; have bl := bl.keep kx; have bm := bm.keep kx; have bg := bg.keep kx; have bn := bn.keep kx; have bw := BoxL.new w11 (.string ⟨d.toArray⟩) (.string ⟨P.toArray⟩) (.int .i64 N) 23; have kk11 := kk10.trans kx; clear m0 m1 m2 fm g0 g1 fg kx a11))
    generalize w11.alloc (.cells #[.string ⟨d.toArray⟩, .string ⟨P.toArray⟩, .int .i64 N] 23) = W0 at be bl bm bg bn bw kk11 ⊢
    clear q1 c1 c2 c3 q3 q5 q6 q10 q11
    refine wp_region_X (fun W => Chg No W0 W) (by kernel_rfl) (by kernel_rfl) ((Chg.refl No W0).drew) ?_
    refine wpX_val (.agg #[.string ⟨ec.toArray⟩, .string ⟨er.toArray⟩]) rfl (by intro W hW; obtain ⟨e0, e1, fe⟩ := be.keep hW; go_simp) ?_
    simp only [Act.put, List.setIfInBounds_toArray, List.set_cons_zero, List.set_cons_succ]
    refine wpX_call (.bool (recB ec er)) (f := 39) (args := #[.agg #[.string ⟨ec.toArray⟩, .string ⟨er.toArray⟩]]) rfl (by intro W hW; go_simp) (fun W hW => (IsValidRecord_any ec er W (by omega) (by omega) ((HL.out.keep kk11).keep hW)).mono (by rintro e w' ⟨rfl, hk⟩; exact ⟨rfl, hW.trans hk⟩)) ?_
    simp only [Act.put, List.setIfInBounds_toArray, List.set_cons_zero, List.set_cons_succ]
    refine wpX_val (.agg #[.string ⟨ec.toArray⟩, .string ⟨er.toArray⟩]) rfl (by intro W hW; obtain ⟨e0, e1, fe⟩ := be.keep hW; go_simp) ?_
    simp only [Act.put, List.setIfInBounds_toArray, List.set_cons_zero, List.set_cons_succ]
    refine wpX_call (.bool (recB ec er)) (f := 40) (args := #[.agg #[.string ⟨ec.toArray⟩, .string ⟨er.toArray⟩]]) rfl (by intro W hW; go_simp) (fun W hW => (specIsRec_any ec er W hec her).mono (by rintro e w' ⟨rfl, hk⟩; exact ⟨rfl, hW.trans hk⟩)) ?_
    simp only [Act.put, List.setIfInBounds_toArray, List.set_cons_zero, List.set_cons_succ]
    refine wpX_val (.bool false) rfl (by intro W hW; go_simp) ?_
    simp only [Act.put, List.setIfInBounds_toArray, List.set_cons_zero, List.set_cons_succ]
    refine wpX_val (.bool false) rfl (by intro W hW; go_simp) ?_
    simp only [Act.put, List.setIfInBounds_toArray, List.set_cons_zero, List.set_cons_succ]
    refine wpX_val (.string ⟨(encTI k fc fr).toArray⟩) rfl (by intro W hW; go_simp) ?_
    simp only [Act.put, List.setIfInBounds_toArray, List.set_cons_zero, List.set_cons_succ]
    refine wpX_val (.string ⟨(encTI k fc fr).toArray⟩) rfl (by intro W hW; go_simp) ?_
    simp only [Act.put, List.setIfInBounds_toArray, List.set_cons_zero, List.set_cons_succ]
    refine wpX_val (.bool false) rfl (by intro W hW; go_simp) ?_
    simp only [Act.put, List.setIfInBounds_toArray, List.set_cons_zero, List.set_cons_succ]
    refine wpX_val (.bool false) rfl (by intro W hW; go_simp) ?_
    simp only [Act.put, List.setIfInBounds_toArray, List.set_cons_zero, List.set_cons_succ]
    refine wpX_val (.bool false) rfl (by intro W hW; go_simp) ?_
    simp only [Act.put, List.setIfInBounds_toArray, List.set_cons_zero, List.set_cons_succ]
    refine wpX_val (.bool (encBI k fc fr)) rfl (by intro W hW; go_simp) ?_
    simp only [Act.put, List.setIfInBounds_toArray, List.set_cons_zero, List.set_cons_succ]
    refine wpX_val (.bool (encBI k fc fr)) rfl (by intro W hW; go_simp) ?_
    simp only [Act.put, List.setIfInBounds_toArray, List.set_cons_zero, List.set_cons_succ]
    refine wpX_val (.bool false) rfl (by intro W hW; go_simp) ?_
    simp only [Act.put, List.setIfInBounds_toArray, List.set_cons_zero, List.set_cons_succ]
    refine wpX_val (.bool false) rfl (by intro W hW; go_simp) ?_
    simp only [Act.put, List.setIfInBounds_toArray, List.set_cons_zero, List.set_cons_succ]
    refine wpX_val (.bool false) rfl (by intro W hW; go_simp) ?_
    simp only [Act.put, List.setIfInBounds_toArray, List.set_cons_zero, List.set_cons_succ]
    refine wpX_val (.agg #[.string ⟨ld.toArray⟩, .string ⟨lp.toArray⟩, .int .i64 ln]) rfl (by intro W hW; obtain ⟨e0, e1, e2, fe⟩ := bl.keep hW; go_simp) ?_
    simp only [Act.put, List.setIfInBounds_toArray, List.set_cons_zero, List.set_cons_succ]
    refine wpX_call (.bool (validB ld lp ln)) (f := 17) (args := #[.agg #[.string ⟨ld.toArray⟩, .string ⟨lp.toArray⟩, .int .i64 ln]]) rfl (by intro W hW; go_simp) (fun W hW => (implValid_any ld lp ln W (by omega) (by omega) ((HL.out.keep kk11).keep hW)).mono (by rintro e w' ⟨rfl, hk⟩; exact ⟨rfl, hW.trans hk⟩)) ?_
    simp only [Act.put, List.setIfInBounds_toArray, List.set_cons_zero, List.set_cons_succ]
    refine wpX_val (.agg #[.string ⟨ld.toArray⟩, .string ⟨lp.toArray⟩, .int .i64 ln]) rfl (by intro W hW; obtain ⟨e0, e1, e2, fe⟩ := bl.keep hW; go_simp) ?_
    simp only [Act.put, List.setIfInBounds_toArray, List.set_cons_zero, List.set_cons_succ]
    refine wpX_call (.bool (validB ld lp ln)) (f := 15) (args := #[.agg #[.string ⟨ld.toArray⟩, .string ⟨lp.toArray⟩, .int .i64 ln]]) rfl (by intro W hW; go_simp) (fun W hW => (specValid_any ld lp ln W (by omega) (by omega)).mono (by rintro e w' ⟨rfl, hk⟩; exact ⟨rfl, hW.trans hk⟩)) ?_
    simp only [Act.put, List.setIfInBounds_toArray, List.set_cons_zero, List.set_cons_succ]
    refine wpX_val (.bool false) rfl (by intro W hW; go_simp) ?_
    simp only [Act.put, List.setIfInBounds_toArray, List.set_cons_zero, List.set_cons_succ]
    refine wpX_val (.bool false) rfl (by intro W hW; go_simp) ?_
    simp only [Act.put, List.setIfInBounds_toArray, List.set_cons_zero, List.set_cons_succ]
    refine wpX_val (.bool false) rfl (by intro W hW; go_simp) ?_
    simp only [Act.put, List.setIfInBounds_toArray, List.set_cons_zero, List.set_cons_succ]
    refine wpX_val (.agg #[.string ⟨d.toArray⟩, .string ⟨P.toArray⟩, .int .i64 N]) rfl (by intro W hW; obtain ⟨e0, e1, e2, fe⟩ := bn.keep hW; go_simp) ?_
    simp only [Act.put, List.setIfInBounds_toArray, List.set_cons_zero, List.set_cons_succ]
    refine wpX_val (.agg #[.string ⟨d.toArray⟩, .string ⟨P.toArray⟩, .int .i64 N]) rfl (by intro W hW; obtain ⟨e0, e1, e2, fe⟩ := bw.keep hW; go_simp) ?_
    simp only [Act.put, List.setIfInBounds_toArray, List.set_cons_zero, List.set_cons_succ]
    refine wpX_val (.bool false) rfl (by intro W hW; go_simp) ?_
    simp only [Act.put, List.setIfInBounds_toArray, List.set_cons_zero, List.set_cons_succ]
    refine wpX_val (.bool false) rfl (by intro W hW; go_simp) ?_
    simp only [Act.put, List.setIfInBounds_toArray, List.set_cons_zero, List.set_cons_succ]
    refine wpX_val (.bool false) rfl (by intro W hW; go_simp) ?_
    simp only [Act.put, List.setIfInBounds_toArray, List.set_cons_zero, List.set_cons_succ]
    refine wpX_val (.int .i64 s) rfl (by intro W hW; go_simp) ?_
    simp only [Act.put, List.setIfInBounds_toArray, List.set_cons_zero, List.set_cons_succ]
    refine wpX_val (.int .i64 s) rfl (by intro W hW; go_simp) ?_
    simp only [Act.put, List.setIfInBounds_toArray, List.set_cons_zero, List.set_cons_succ]
    refine wpX_val (.bool false) rfl (by intro W hW; go_simp) ?_
    simp only [Act.put, List.setIfInBounds_toArray, List.set_cons_zero, List.set_cons_succ]
    refine wpX_val (.bool false) rfl (by intro W hW; go_simp) ?_
    simp only [Act.put, List.setIfInBounds_toArray, List.set_cons_zero, List.set_cons_succ]
    refine wpX_nil (fun W1 hW1 => ?_)
    have bm := bm.keep hW1
    have bg := bg.keep hW1
    have bn := bn.keep hW1
    have kk := kk11.trans hW1
    clear be bl bw hW1 kk11
    obtain ⟨hP, hN, hs⟩ := HAP.out
    have HAG := Lib.hid (fun (h0 : s = 0) => app_go hP hN (hs.trans h0))
    have HAS := Lib.hid (fun (h0 : ¬ s = 0) => app_halt hP hN hs h0)
    clear hP hN hs HAP
    have hsl := syncD_len d p n
    have q13 := Lib.hid (fun W hW => implSync_any d p n W (by omega) (by omega) hW)
    have q14 := Lib.hid (fun W => specSync_any d p n W (by omega) (by omega))
    have q15 := Lib.hid (fun W hW => implRecords_any d p n W (by omega) (by omega) hW)
    have q16 := Lib.hid (fun W => specRecords_any d p n W (by omega) (by omega))
    have q18 := Lib.hid (fun v v' W => vRecS_same v v' (recL d p n) W (Nat.le_succ_of_le (recL_len d p n)))
    have q19 := Lib.hid (fun W hW => implRecords_any (syncD d p n) [] (syncN d p n) W (by omega) (by simp) hW)
    have e0 : ([] : List UInt8).toArray = #[] := rfl
    have hLl := recL_len d p n
    rw [recL_sync] at q19
    unfold lv at q13 q14 q15 q16 q19
    rw [e0] at q13 q14 q19
    clear e0 hsl
    generalize validB (syncD d p n) [] (syncN d p n) = b9 at q19
    generalize syncD d p n = sd at q13 q14 q19
    generalize syncN d p n = sn at q13 q14 q19
    obtain ⟨L, hL⟩ : ∃ L, recL d p n = L := ⟨_, rfl⟩
    obtain ⟨nl, hnl⟩ : ∃ k, L.length = k := ⟨_, rfl⟩
    rw [hL] at q15 q16 q18 q19 hLl HAG
    rw [hnl] at q15 q16 q18 q19 hLl
    have HNL := Lib.hid hnl
    clear hL hnl
    clear qb
    obtain ⟨m0, m1, m2, fm⟩ := id bm
    by_cases h0 : s = 0
    · obtain ⟨hv, hv', x, hx, hP61⟩ := HAG.out h0
      subst h0
      rw [hv] at q13 q14 q15 q16
      have q24 := Lib.hid (fun W hW => implRecords_any d P N W (by omega) (by omega) hW)
      have q25 := Lib.hid (fun W hW => implValid_any d P N W (by omega) (by omega) hW)
      rw [hv', hx, List.length_append, List.length_singleton, HNL.out] at q24
      rw [hv'] at q25
      unfold lv at q24 q25
      clear HAG HAS hv hv' hx hP61
      go_wp2_with (first
        | (go_at_call 21; refine (q13.out _ (HL.out.keep kk)).mono ?_; rintro e w13 ⟨rfl, hk⟩; have a := (Chg.refl No w13).alloc (.cells #[.string ⟨sd.toArray⟩, .string ⟨#[]⟩, .int .i64 sn] 23); have kx := hk.trans a; have bm := bm.keep kx; have bg := bg.keep kx; have bn := bn.keep kx; have bk := BoxL.new w13 (.string ⟨sd.toArray⟩) (.string ⟨#[]⟩) (.int .i64 sn) 23; have kk13 := kk.trans kx; clear m0 m1 m2 fm kx a hk; obtain ⟨m0, m1, m2, fm⟩ := id bm)
        | (go_at_call 20; refine (q14.out _).mono ?_; rintro e w14 ⟨rfl, hk⟩; have a := (Chg.refl No w14).alloc (.cells #[.string ⟨sd.toArray⟩, .string ⟨#[]⟩, .int .i64 sn] 23); have kx := hk.trans a; have bm := bm.keep kx; have bg := bg.keep kx; have bn := bn.keep kx; have bk := bk.keep kx; have bv := BoxL.new w14 (.string ⟨sd.toArray⟩) (.string ⟨#[]⟩) (.int .i64 sn) 23; have kk14 := kk13.trans kx; clear m0 m1 m2 fm kx a hk; obtain ⟨m0, m1, m2, fm⟩ := id bm)
        | (go_at_call 27; first
          | (with_reducible refine (q15.out _ (HL.out.keep kk14)).mono ?_; rintro e w15 ⟨va, rfl, oa, hk⟩; have ra := oa.readNo; have bm := bm.keep hk; have bg := bg.keep hk; have bn := bn.keep hk; have bk := bk.keep hk; have bv := bv.keep hk; have kk15 := kk14.trans hk; clear m0 m1 m2 fm hk oa; obtain ⟨m0, m1, m2, fm⟩ := id bm)
          | (with_reducible refine (q19.out _ (HL.out.keep kk17)).mono ?_; rintro e w19 ⟨vz, rfl, oz, hk⟩; have rz := oz.readNo; have ra := ra.keep hk; have bm := bm.keep hk; have bg := bg.keep hk; have bn := bn.keep hk; have kk19 := kk17.trans hk; clear hk oz k0 k1 k2 fk; obtain ⟨m0, m1, m2, fm⟩ := id bm; obtain ⟨n0, n1, n2, fn⟩ := id bn)
          | (with_reducible refine (q24.out _ (HL.out.keep kk20)).mono ?_; rintro e w24 ⟨vm, rfl, om, hk⟩; have rm := om.readNo; have ra := ra.keep hk; have bg := bg.keep hk; have bn := bn.keep hk; have kk24 := kk20.trans hk; clear hk om))
        | (go_at_call 26; refine (q16.out _).mono ?_; rintro e w16 ⟨vw, rfl, ow, hk⟩; have rw' := ow.readNo; have ra := ra.keep hk; have bm := bm.keep hk; have bg := bg.keep hk; have bn := bn.keep hk; have bk := bk.keep hk; have bv := bv.keep hk; have kk16 := kk15.trans hk; clear m0 m1 m2 fm hk ow; obtain ⟨k0, k1, k2, fk⟩ := id bk; obtain ⟨y0, y1, y2, fy⟩ := id bv)
        | (go_at_call 41; first
          | (with_reducible refine (q18.out _ _ _ rz ra).mono ?_; rintro e w20 ⟨rfl, hk⟩; have ra := ra.keep hk; have bm := bm.keep hk; have bg := bg.keep hk; have bn := bn.keep hk; have kk20 := kk19.trans hk; clear hk rz m0 m1 m2 fm n0 n1 n2 fn; obtain ⟨m0, m1, m2, fm⟩ := id bm; obtain ⟨n0, n1, n2, fn⟩ := id bn)
          | (with_reducible refine (q18.out _ _ _ ra rw').mono ?_; rintro e w17 ⟨rfl, hk⟩; have ra := ra.keep hk; have bm := bm.keep hk; have bg := bg.keep hk; have bn := bn.keep hk; have bk := bk.keep hk; have kk17 := kk16.trans hk; clear hk rw' k0 k1 k2 fk y0 y1 y2 fy bv; obtain ⟨k0, k1, k2, fk⟩ := id bk)))
      have hnl := HNL.out
      have hla := recC_last L c r x nl hnl
      obtain ⟨aa, ca, rfl, ha1, ha2, _, _, _⟩ := id ra
      obtain ⟨am, cm, rfl, hm1, hm2', hm3, _, hmc⟩ := id rm
      obtain ⟨g3, o3, rfl, _, hg3, hcell⟩ := hmc (Nat.succ_pos _)
      have f0 := hcell (nl * 2) (by omega)
      have f1 := hcell (nl * 2 + 1) (by omega)
      rw [hla.2.1] at f0
      rw [hla.2.2.1, ← Nat.add_assoc] at f1
      obtain ⟨ax, cx, hsl, rx⟩ := RF.upto 46 und_recs siz_recs rm nl (Nat.le_succ _)
      rw [hla.2.2.2] at rx
      clear hcell hmc hla hnl hm3
      obtain ⟨n0, n1, n2, fn⟩ := id bn
      obtain ⟨g0, g1, fg⟩ := id bg
      obtain ⟨C, hC1, hC2⟩ : ∃ C : World → Prop, (∀ W, C W → Chg No w24 W) ∧ (∀ W, Chg No w24 W → C W) := ⟨_, fun _ h => h, fun _ h => h⟩
      have HCELL : Hid (∀ W, C W → BoxL W w10.heap.size (.string ⟨d.toArray⟩) (.string ⟨P.toArray⟩) (.int .i64 N) ∧ Box2 W (w9.heap.size + 1) (.string ⟨c.toArray⟩) (.string ⟨r.toArray⟩) ∧ W.cell? ⟨g3, o3 + nl * 2, none⟩ = some (.string ⟨c.toArray⟩) ∧ W.cell? ⟨g3, o3 + nl * 2 + 1, none⟩ = some (.string ⟨r.toArray⟩)) := Lib.hid (fun W hW =>
        ⟨bn.keep (hC1 W hW), bg.keep (hC1 W hW), ((hC1 W hW).cellD g3 _ hg3 (fun e => e)).trans f0, ((hC1 W hW).cellD g3 _ hg3 (fun e => e)).trans f1⟩)
      have HX := Lib.hid hC1
      have HI := Lib.hid hC2
      have hC0 := hC2 _ (Chg.refl No w24).drew
      clear hC1 hC2 f0 f1 n0 n1 n2 fn g0 g1 fg
      have hw1 : IntKind.i64.wrap ((nl : Int) + 1) = (nl : Int) + 1 := IntWalk.i64_in _ (by omega)
      have hi0 : (0 : Int) ≤ (nl : Int) := Int.natCast_nonneg _
      have hi1 : (nl : Int) < ((nl + 1 : Nat) : Int) := by omega
      refine wp_region_X C (by kernel_rfl) (by kernel_rfl) hC0 ?_
      clear hC0
      refine wpX_val (.agg #[.string ⟨d.toArray⟩, .string ⟨P.toArray⟩, .int .i64 N]) rfl (by intro W hW; obtain ⟨⟨e0, e1, e2, fe⟩, ⟨e3, e4, fe'⟩, e5, e6⟩ := HCELL.out W hW; go_simp) ?_
      simp only [Act.put, List.setIfInBounds_toArray, List.set_cons_zero, List.set_cons_succ]
      refine wpX_call (.bool true) (f := 17) (args := #[.agg #[.string ⟨d.toArray⟩, .string ⟨P.toArray⟩, .int .i64 N]]) rfl (by intro W hW; go_simp) (fun W hW => (q25.out W (HL.out.keep (kk24.trans (HX.out W hW)))).mono (by rintro e w' ⟨rfl, hk⟩; exact ⟨rfl, HI.out _ ((HX.out W hW).trans hk)⟩)) ?_
      simp only [Act.put, List.setIfInBounds_toArray, List.set_cons_zero, List.set_cons_succ]
      refine wpX_val (.bool true) rfl (by intro W hW; obtain ⟨⟨e0, e1, e2, fe⟩, ⟨e3, e4, fe'⟩, e5, e6⟩ := HCELL.out W hW; go_simp) ?_
      simp only [Act.put, List.setIfInBounds_toArray, List.set_cons_zero, List.set_cons_succ]
      refine wpX_val (.slice (some ⟨g3, o3, none⟩) (nl + 1) cm) rfl (by intro W hW; obtain ⟨⟨e0, e1, e2, fe⟩, ⟨e3, e4, fe'⟩, e5, e6⟩ := HCELL.out W hW; go_simp) ?_
      simp only [Act.put, List.setIfInBounds_toArray, List.set_cons_zero, List.set_cons_succ]
      refine wpX_val (.int .i64 ((nl + 1 : Nat) : Int)) rfl (by intro W hW; obtain ⟨⟨e0, e1, e2, fe⟩, ⟨e3, e4, fe'⟩, e5, e6⟩ := HCELL.out W hW; go_simp) ?_
      simp only [Act.put, List.setIfInBounds_toArray, List.set_cons_zero, List.set_cons_succ]
      refine wpX_val (.slice aa nl ca) rfl (by intro W hW; obtain ⟨⟨e0, e1, e2, fe⟩, ⟨e3, e4, fe'⟩, e5, e6⟩ := HCELL.out W hW; go_simp) ?_
      simp only [Act.put, List.setIfInBounds_toArray, List.set_cons_zero, List.set_cons_succ]
      refine wpX_val (.int .i64 (nl : Int)) rfl (by intro W hW; obtain ⟨⟨e0, e1, e2, fe⟩, ⟨e3, e4, fe'⟩, e5, e6⟩ := HCELL.out W hW; go_simp) ?_
      simp only [Act.put, List.setIfInBounds_toArray, List.set_cons_zero, List.set_cons_succ]
      refine wpX_val (.int .i64 ((nl : Int) + 1)) rfl (by intro W hW; obtain ⟨⟨e0, e1, e2, fe⟩, ⟨e3, e4, fe'⟩, e5, e6⟩ := HCELL.out W hW; go_simp) ?_
      simp only [Act.put, List.setIfInBounds_toArray, List.set_cons_zero, List.set_cons_succ]
      refine wpX_val (.bool true) rfl (by intro W hW; obtain ⟨⟨e0, e1, e2, fe⟩, ⟨e3, e4, fe'⟩, e5, e6⟩ := HCELL.out W hW; go_simp) ?_
      simp only [Act.put, List.setIfInBounds_toArray, List.set_cons_zero, List.set_cons_succ]
      refine wpX_val (.bool true) rfl (by intro W hW; obtain ⟨⟨e0, e1, e2, fe⟩, ⟨e3, e4, fe'⟩, e5, e6⟩ := HCELL.out W hW; go_simp) ?_
      simp only [Act.put, List.setIfInBounds_toArray, List.set_cons_zero, List.set_cons_succ]
      refine wpX_val (.bool true) rfl (by intro W hW; obtain ⟨⟨e0, e1, e2, fe⟩, ⟨e3, e4, fe'⟩, e5, e6⟩ := HCELL.out W hW; go_simp) ?_
      simp only [Act.put, List.setIfInBounds_toArray, List.set_cons_zero, List.set_cons_succ]
      refine wpX_val (.slice (some ⟨g3, o3, none⟩) (nl + 1) cm) rfl (by intro W hW; obtain ⟨⟨e0, e1, e2, fe⟩, ⟨e3, e4, fe'⟩, e5, e6⟩ := HCELL.out W hW; go_simp) ?_
      simp only [Act.put, List.setIfInBounds_toArray, List.set_cons_zero, List.set_cons_succ]
      refine wpX_val (.slice aa nl ca) rfl (by intro W hW; obtain ⟨⟨e0, e1, e2, fe⟩, ⟨e3, e4, fe'⟩, e5, e6⟩ := HCELL.out W hW; go_simp) ?_
      simp only [Act.put, List.setIfInBounds_toArray, List.set_cons_zero, List.set_cons_succ]
      refine wpX_val (.int .i64 (nl : Int)) rfl (by intro W hW; obtain ⟨⟨e0, e1, e2, fe⟩, ⟨e3, e4, fe'⟩, e5, e6⟩ := HCELL.out W hW; go_simp) ?_
      simp only [Act.put, List.setIfInBounds_toArray, List.set_cons_zero, List.set_cons_succ]
      refine wpX_val (.slice ax nl cx) rfl (by intro W hW; obtain ⟨⟨e0, e1, e2, fe⟩, ⟨e3, e4, fe'⟩, e5, e6⟩ := HCELL.out W hW; go_simp) ?_
      simp only [Act.put, List.setIfInBounds_toArray, List.set_cons_zero, List.set_cons_succ]
      refine wpX_val (.slice aa nl ca) rfl (by intro W hW; obtain ⟨⟨e0, e1, e2, fe⟩, ⟨e3, e4, fe'⟩, e5, e6⟩ := HCELL.out W hW; go_simp) ?_
      simp only [Act.put, List.setIfInBounds_toArray, List.set_cons_zero, List.set_cons_succ]
      refine wpX_call (.bool true) (f := 41) (args := #[.slice ax nl cx, .slice aa nl ca]) rfl (by intro W hW; go_simp) (fun W hW => (q18.out _ _ W (rx.keep (HX.out W hW)) (ra.keep (HX.out W hW))).mono (by rintro e w' ⟨rfl, hk⟩; exact ⟨rfl, HI.out _ ((HX.out W hW).trans hk)⟩)) ?_
      simp only [Act.put, List.setIfInBounds_toArray, List.set_cons_zero, List.set_cons_succ]
      refine wpX_val (.bool true) rfl (by intro W hW; obtain ⟨⟨e0, e1, e2, fe⟩, ⟨e3, e4, fe'⟩, e5, e6⟩ := HCELL.out W hW; go_simp) ?_
      simp only [Act.put, List.setIfInBounds_toArray, List.set_cons_zero, List.set_cons_succ]
      refine wpX_val (.bool true) rfl (by intro W hW; obtain ⟨⟨e0, e1, e2, fe⟩, ⟨e3, e4, fe'⟩, e5, e6⟩ := HCELL.out W hW; go_simp) ?_
      simp only [Act.put, List.setIfInBounds_toArray, List.set_cons_zero, List.set_cons_succ]
      refine wpX_val (.slice (some ⟨g3, o3, none⟩) (nl + 1) cm) rfl (by intro W hW; obtain ⟨⟨e0, e1, e2, fe⟩, ⟨e3, e4, fe'⟩, e5, e6⟩ := HCELL.out W hW; go_simp) ?_
      simp only [Act.put, List.setIfInBounds_toArray, List.set_cons_zero, List.set_cons_succ]
      refine wpX_val (.slice aa nl ca) rfl (by intro W hW; obtain ⟨⟨e0, e1, e2, fe⟩, ⟨e3, e4, fe'⟩, e5, e6⟩ := HCELL.out W hW; go_simp) ?_
      simp only [Act.put, List.setIfInBounds_toArray, List.set_cons_zero, List.set_cons_succ]
      refine wpX_val (.int .i64 (nl : Int)) rfl (by intro W hW; obtain ⟨⟨e0, e1, e2, fe⟩, ⟨e3, e4, fe'⟩, e5, e6⟩ := HCELL.out W hW; go_simp) ?_
      simp only [Act.put, List.setIfInBounds_toArray, List.set_cons_zero, List.set_cons_succ]
      refine wpX_val (.pointer (some ⟨g3, o3 + nl * 2, none⟩)) rfl (by intro W hW; go_simp; intro h; omega) ?_
      simp only [Act.put, List.setIfInBounds_toArray, List.set_cons_zero, List.set_cons_succ]
      refine wpX_val (.agg #[.string ⟨c.toArray⟩, .string ⟨r.toArray⟩]) rfl (by intro W hW; obtain ⟨⟨e0, e1, e2, fe⟩, ⟨e3, e4, fe'⟩, e5, e6⟩ := HCELL.out W hW; go_simp) ?_
      simp only [Act.put, List.setIfInBounds_toArray, List.set_cons_zero, List.set_cons_succ]
      refine wpX_val (.agg #[.string ⟨c.toArray⟩, .string ⟨r.toArray⟩]) rfl (by intro W hW; obtain ⟨⟨e0, e1, e2, fe⟩, ⟨e3, e4, fe'⟩, e5, e6⟩ := HCELL.out W hW; go_simp) ?_
      simp only [Act.put, List.setIfInBounds_toArray, List.set_cons_zero, List.set_cons_succ]
      refine wpX_val (.bool true) rfl (by intro W hW; obtain ⟨⟨e0, e1, e2, fe⟩, ⟨e3, e4, fe'⟩, e5, e6⟩ := HCELL.out W hW; go_simp) ?_
      simp only [Act.put, List.setIfInBounds_toArray, List.set_cons_zero, List.set_cons_succ]
      refine wpX_val (.bool true) rfl (by intro W hW; obtain ⟨⟨e0, e1, e2, fe⟩, ⟨e3, e4, fe'⟩, e5, e6⟩ := HCELL.out W hW; go_simp) ?_
      simp only [Act.put, List.setIfInBounds_toArray, List.set_cons_zero, List.set_cons_succ]
      refine wpX_val (.bool true) rfl (by intro W hW; obtain ⟨⟨e0, e1, e2, fe⟩, ⟨e3, e4, fe'⟩, e5, e6⟩ := HCELL.out W hW; go_simp) ?_
      simp only [Act.put, List.setIfInBounds_toArray, List.set_cons_zero, List.set_cons_succ]
      refine wpX_nil (fun W hW => ?_)
      have g2 := HX.out W hW
      go_wp2_with fail
      go_ret
      exact ⟨rfl, kk24.trans g2⟩
    · obtain ⟨hPp, hNn⟩ := HAS.out h0
      rw [hPp, hNn] at bn
      clear HAG HAS
      cases hb : validB d p n with
      | true =>
        rw [hb] at q13 q14 q15 q16
        clear hb
        go_wp2_with (first
        | (go_at_call 21; refine (q13.out _ (HL.out.keep kk)).mono ?_; rintro e w13 ⟨rfl, hk⟩; have a := (Chg.refl No w13).alloc (.cells #[.string ⟨sd.toArray⟩, .string ⟨#[]⟩, .int .i64 sn] 23); have kx := hk.trans a; have bm := bm.keep kx; have bg := bg.keep kx; have bn := bn.keep kx; have bk := BoxL.new w13 (.string ⟨sd.toArray⟩) (.string ⟨#[]⟩) (.int .i64 sn) 23; have kk13 := kk.trans kx; clear m0 m1 m2 fm kx a hk; obtain ⟨m0, m1, m2, fm⟩ := id bm)
        | (go_at_call 20; refine (q14.out _).mono ?_; rintro e w14 ⟨rfl, hk⟩; have a := (Chg.refl No w14).alloc (.cells #[.string ⟨sd.toArray⟩, .string ⟨#[]⟩, .int .i64 sn] 23); have kx := hk.trans a; have bm := bm.keep kx; have bg := bg.keep kx; have bn := bn.keep kx; have bk := bk.keep kx; have bv := BoxL.new w14 (.string ⟨sd.toArray⟩) (.string ⟨#[]⟩) (.int .i64 sn) 23; have kk14 := kk13.trans kx; clear m0 m1 m2 fm kx a hk; obtain ⟨m0, m1, m2, fm⟩ := id bm)
        | (go_at_call 27; first
          | (with_reducible refine (q15.out _ (HL.out.keep kk14)).mono ?_; rintro e w15 ⟨va, rfl, oa, hk⟩; have ra := oa.readNo; have bm := bm.keep hk; have bg := bg.keep hk; have bn := bn.keep hk; have bk := bk.keep hk; have bv := bv.keep hk; have kk15 := kk14.trans hk; clear m0 m1 m2 fm hk oa; obtain ⟨m0, m1, m2, fm⟩ := id bm)
          | (with_reducible refine (q19.out _ (HL.out.keep kk17)).mono ?_; rintro e w19 ⟨vz, rfl, oz, hk⟩; have rz := oz.readNo; have ra := ra.keep hk; have bm := bm.keep hk; have bg := bg.keep hk; have bn := bn.keep hk; have kk19 := kk17.trans hk; clear hk oz k0 k1 k2 fk; obtain ⟨m0, m1, m2, fm⟩ := id bm; obtain ⟨n0, n1, n2, fn⟩ := id bn)
          | (with_reducible refine (q24.out _ (HL.out.keep kk20)).mono ?_; rintro e w24 ⟨vm, rfl, om, hk⟩; have rm := om.readNo; have ra := ra.keep hk; have bg := bg.keep hk; have bn := bn.keep hk; have kk24 := kk20.trans hk; clear hk om))
        | (go_at_call 26; refine (q16.out _).mono ?_; rintro e w16 ⟨vw, rfl, ow, hk⟩; have rw' := ow.readNo; have ra := ra.keep hk; have bm := bm.keep hk; have bg := bg.keep hk; have bn := bn.keep hk; have bk := bk.keep hk; have bv := bv.keep hk; have kk16 := kk15.trans hk; clear m0 m1 m2 fm hk ow; obtain ⟨k0, k1, k2, fk⟩ := id bk; obtain ⟨y0, y1, y2, fy⟩ := id bv)
        | (go_at_call 41; first
          | (with_reducible refine (q18.out _ _ _ rz ra).mono ?_; rintro e w20 ⟨rfl, hk⟩; have ra := ra.keep hk; have bm := bm.keep hk; have bg := bg.keep hk; have bn := bn.keep hk; have kk20 := kk19.trans hk; clear hk rz m0 m1 m2 fm n0 n1 n2 fn; obtain ⟨m0, m1, m2, fm⟩ := id bm; obtain ⟨n0, n1, n2, fn⟩ := id bn)
          | (with_reducible refine (q18.out _ _ _ ra rw').mono ?_; rintro e w17 ⟨rfl, hk⟩; have ra := ra.keep hk; have bm := bm.keep hk; have bg := bg.keep hk; have bn := bn.keep hk; have bk := bk.keep hk; have kk17 := kk16.trans hk; clear hk rw' k0 k1 k2 fk y0 y1 y2 fy bv; obtain ⟨k0, k1, k2, fk⟩ := id bk)))
        go_ret
        exact ⟨rfl, kk20⟩
      | false =>
        rw [hb] at q13 q14 q15 q16
        clear hb
        go_wp2_with (first
        | (go_at_call 21; refine (q13.out _ (HL.out.keep kk)).mono ?_; rintro e w13 ⟨rfl, hk⟩; have a := (Chg.refl No w13).alloc (.cells #[.string ⟨sd.toArray⟩, .string ⟨#[]⟩, .int .i64 sn] 23); have kx := hk.trans a; have bm := bm.keep kx; have bg := bg.keep kx; have bn := bn.keep kx; have bk := BoxL.new w13 (.string ⟨sd.toArray⟩) (.string ⟨#[]⟩) (.int .i64 sn) 23; have kk13 := kk.trans kx; clear m0 m1 m2 fm kx a hk; obtain ⟨m0, m1, m2, fm⟩ := id bm)
        | (go_at_call 20; refine (q14.out _).mono ?_; rintro e w14 ⟨rfl, hk⟩; have a := (Chg.refl No w14).alloc (.cells #[.string ⟨sd.toArray⟩, .string ⟨#[]⟩, .int .i64 sn] 23); have kx := hk.trans a; have bm := bm.keep kx; have bg := bg.keep kx; have bn := bn.keep kx; have bk := bk.keep kx; have bv := BoxL.new w14 (.string ⟨sd.toArray⟩) (.string ⟨#[]⟩) (.int .i64 sn) 23; have kk14 := kk13.trans kx; clear m0 m1 m2 fm kx a hk; obtain ⟨m0, m1, m2, fm⟩ := id bm)
        | (go_at_call 27; first
          | (with_reducible refine (q15.out _ (HL.out.keep kk14)).mono ?_; rintro e w15 ⟨va, rfl, oa, hk⟩; have ra := oa.readNo; have bm := bm.keep hk; have bg := bg.keep hk; have bn := bn.keep hk; have bk := bk.keep hk; have bv := bv.keep hk; have kk15 := kk14.trans hk; clear m0 m1 m2 fm hk oa; obtain ⟨m0, m1, m2, fm⟩ := id bm)
          | (with_reducible refine (q19.out _ (HL.out.keep kk17)).mono ?_; rintro e w19 ⟨vz, rfl, oz, hk⟩; have rz := oz.readNo; have ra := ra.keep hk; have bm := bm.keep hk; have bg := bg.keep hk; have bn := bn.keep hk; have kk19 := kk17.trans hk; clear hk oz k0 k1 k2 fk; obtain ⟨m0, m1, m2, fm⟩ := id bm; obtain ⟨n0, n1, n2, fn⟩ := id bn)
          | (with_reducible refine (q24.out _ (HL.out.keep kk20)).mono ?_; rintro e w24 ⟨vm, rfl, om, hk⟩; have rm := om.readNo; have ra := ra.keep hk; have bg := bg.keep hk; have bn := bn.keep hk; have kk24 := kk20.trans hk; clear hk om))
        | (go_at_call 26; refine (q16.out _).mono ?_; rintro e w16 ⟨vw, rfl, ow, hk⟩; have rw' := ow.readNo; have ra := ra.keep hk; have bm := bm.keep hk; have bg := bg.keep hk; have bn := bn.keep hk; have bk := bk.keep hk; have bv := bv.keep hk; have kk16 := kk15.trans hk; clear m0 m1 m2 fm hk ow; obtain ⟨k0, k1, k2, fk⟩ := id bk; obtain ⟨y0, y1, y2, fy⟩ := id bv)
        | (go_at_call 41; first
          | (with_reducible refine (q18.out _ _ _ rz ra).mono ?_; rintro e w20 ⟨rfl, hk⟩; have ra := ra.keep hk; have bm := bm.keep hk; have bg := bg.keep hk; have bn := bn.keep hk; have kk20 := kk19.trans hk; clear hk rz m0 m1 m2 fm n0 n1 n2 fn; obtain ⟨m0, m1, m2, fm⟩ := id bm; obtain ⟨n0, n1, n2, fn⟩ := id bn)
          | (with_reducible refine (q18.out _ _ _ ra rw').mono ?_; rintro e w17 ⟨rfl, hk⟩; have ra := ra.keep hk; have bm := bm.keep hk; have bg := bg.keep hk; have bn := bn.keep hk; have bk := bk.keep hk; have kk17 := kk16.trans hk; clear hk rw' k0 k1 k2 fk y0 y1 y2 fy bv; obtain ⟨k0, k1, k2, fk⟩ := id bk)))
        go_ret
        exact ⟨rfl, kk19⟩
end Go.Proofs.YtmnohickmidfkaaDoor
