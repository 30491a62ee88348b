import Derived.Test.YtmnohickmidfkaaDoorWl
/- FnCrashes: the law -/
namespace Go.Proofs.YtmnohickmidfkaaDoor
open Go.RowKit

set_option maxRecDepth 100000 in
set_option maxHeartbeats 8000000 in
theorem law_FnCrashes (v : Value) (m : Nat) (w : World) (hcode : Code w v m) (hw : Lay w) :
    Calls Tryd.prog 10 #[v] w fun e w' => e = .returned (.bool true) ∧ Chg No w w' := by
  have HL := Lib.hid hw
  clear hw
  have qb := Lib.hid (vBig_any v m w hcode)
  by_cases hm : (65536 : Int) < (m : Int)
  · go_enter Tryd.func10, Tryd.ntmps10
    go_wp2_with (go_at_call 31; refine (qb.out).mono ?_; rintro e w' ⟨rfl, rfl⟩)
    go_ret
    exact ⟨rfl, Chg.refl _ _⟩
  · have hm2 : m ≤ 65536 := by omega
    have q3 := Lib.hid (DrawCrash_any v m w hcode (by omega))
    have c1 : Hid (∀ W, Code W v m → Calls Tryd.prog 34 #[v, .int .i64 1] W fun e w' => ∃ v' n', e = .returned v' ∧ Code w' v' n' ∧ n' ≤ 70001 ∧ Chg No W w') := Lib.hid (fun W h => vCut_any v m 1 W h (by omega) (by omega))
    have q6 := Lib.hid (fun v n W h hn => DrawRecover_any v n W h hn)
    unfold lv at q3
    have HCD := Lib.hid hcode
    clear hcode hm
    go_enter Tryd.func10, Tryd.ntmps10
    go_upto_region 11 with (first
      | (go_at_call 31; refine (qb.out).mono ?_; rintro e w' ⟨rfl, rfl⟩)
      | (go_at_call 42; refine (q3.out).mono ?_; rintro e w1 ⟨d, p, n, K, t, rfl, hlen, hk1⟩; have bm := BoxL.new w1 (.string ⟨d.toArray⟩) (.string ⟨p.toArray⟩) (.int .i64 n) 23; have kk1 := hk1.alloc (.cells #[.string ⟨d.toArray⟩, .string ⟨p.toArray⟩, .int .i64 n] 23); have q4 := Lib.hid (fun W hW => implCrash_any d p n K t W (by omega) (by omega) hW); have q5 := Lib.hid (fun W => specCrash_any d p n K t W (by omega) (by omega)); have HF := Lib.hid (fun h : crB d p n K = true => crash_facts (torn := t) h); obtain ⟨s, hs⟩ : ∃ s, crT d p n K t = s := ⟨_, rfl⟩; obtain ⟨ok, hok⟩ : ∃ b, crB d p n K = b := ⟨_, rfl⟩; rw [hs, hok] at q4 q5 HF; unfold lv at q4 q5; clear hs hok; obtain ⟨m0, m1, m2, fm⟩ := id bm)
      | (go_at_call 19; refine (q4.out _ (HL.out.keep kk1)).mono ?_; rintro e w4 ⟨rfl, hk⟩; have bm := bm.keep hk; have kk4 := kk1.trans hk; clear m0 m1 m2 fm hk; obtain ⟨m0, m1, m2, fm⟩ := id bm)
      | (go_at_call 18; refine (q5.out _).mono ?_; rintro e w5 ⟨rfl, hk⟩; have bm := bm.keep hk; have kk5 := kk4.trans hk; clear m0 m1 m2 fm hk)
      | (go_at_call 34; refine (c1.out _ (HCD.out.keep kk5)).mono ?_; rintro e w6 ⟨v2, n2, rfl, hc2, hn2, hk⟩; have bm := bm.keep hk; have kk6 := kk5.trans hk; clear hk)
      | (go_at_call 43; refine (q6.out _ _ _ hc2 hn2).mono ?_; rintro e w7 ⟨u, rfl, hul, hk⟩; have bm := bm.keep hk; have kk7 := kk6.trans hk; have q7 := Lib.hid (fun W hW => implRecover_any u W (by omega) hW); have q8 := Lib.hid (fun W => specRecover_any u W (by omega)); obtain ⟨td, tp, tn, tk, tb, htt⟩ := recV_shape u; rw [htt] at q7 q8; unfold lv at q7 q8; clear hk htt)
      | (go_at_call 12; refine (q7.out _ (HL.out.keep kk7)).mono ?_; rintro e w8 ⟨rfl, hk⟩; have a := (Chg.refl No w8).alloc (.cells #[.string ⟨td.toArray⟩, .string ⟨tp.toArray⟩, .int .i64 tn] 23); have kx := hk.trans a; have bm := bm.keep kx; have bk := BoxL.new w8 (.string ⟨td.toArray⟩) (.string ⟨tp.toArray⟩) (.int .i64 tn) 23; have kk8 := kk7.trans kx; clear kx a hk)
      | (go_at_call 11; refine (q8.out _).mono ?_; rintro e w9 ⟨rfl, hk⟩; have a := (Chg.refl No w9).alloc (.cells #[.string ⟨td.toArray⟩, .string ⟨tp.toArray⟩, .int .i64 tn] 23); have kx := hk.trans a; have bm := bm.keep kx; have bk := bk.keep kx; have bv := BoxL.new w9 (.string ⟨td.toArray⟩) (.string ⟨tp.toArray⟩) (.int .i64 tn) 23; have kk9 := kk8.trans kx; clear kx a hk; obtain ⟨k0, k1, k2, fk⟩ := id bk; obtain ⟨y0, y1, y2, fy⟩ := id bv))
    clear k0 k1 k2 fk y0 y1 y2 fy bk bv
    generalize w9.alloc (.cells #[.string ⟨td.toArray⟩, .string ⟨tp.toArray⟩, .int .i64 tn] 23) = W0 at bm kk9 ⊢
    clear qb q3 c1 q4 q5 q6 q7 q8
    cases ok with
    | false =>
      go_wp2_with fail
      go_ret
      exact ⟨rfl, kk9⟩
    | true =>
      obtain ⟨hv, hsl, hpre, hdl, hK0, hK1, hall⟩ := HF.out rfl
      obtain ⟨r1, r2, r3⟩ := read_facts s hsl
      have q13 := Lib.hid (fun W hW => implRecover_any s W (by omega) hW)
      have q16 := Lib.hid (fun W hW => implRecords_any d p n W (by omega) (by omega) hW)
      have hLl := recL_len d p n
      have hRl := openB_len 60 0 s
      have hml := lenB_le 60 0 s
      obtain ⟨R, hR⟩ : ∃ R, openB 60 0 s = R := ⟨_, rfl⟩
      unfold recV at q13
      rw [if_pos hsl] at q13
      rw [hR] at hpre hdl hall r1 r2 r3 q13 hRl hml
      obtain ⟨mm, hmm⟩ : ∃ k, lenB R = k := ⟨_, rfl⟩
      rw [hmm] at hdl r1 r2 r3 q13 hml
      obtain ⟨st, hst⟩ : ∃ l, s.take mm = l := ⟨_, rfl⟩
      rw [hst] at r1 r2 r3 q13
      have q14 := Lib.hid (fun W hW => implValid_any st [] (R.length : Int) W (by omega) (by simp) hW)
      have q17 := Lib.hid (fun W hW => implRecords_any st [] (R.length : Int) W (by omega) (by simp) hW)
      have q18 := Lib.hid (fun v v' W => vRecS_same v v' R W (Nat.le_succ_of_le hRl))
      have e0 : ([] : List UInt8).toArray = #[] := rfl
      rw [r1] at q14 q17
      rw [r3] at q17
      rw [hv] at q16
      obtain ⟨L, hL⟩ : ∃ L, recL d p n = L := ⟨_, rfl⟩
      rw [hL] at hpre hall q16 hLl
      have htk := recC_take hpre
      have hle := hpre.length_le
      have hLR : t = false → ¬ K < (p.length : Int) → R.length = L.length := fun h1 h2 => by rw [hall h1 (by omega)]
      obtain ⟨nR, hnR⟩ : ∃ k, R.length = k := ⟨_, rfl⟩
      obtain ⟨nl, hnl⟩ : ∃ k, L.length = k := ⟨_, rfl⟩
      rw [hnR] at q13 q14 q17 q18 htk hle hLR hRl
      rw [hnl] at q16 hle hLR hLl
      unfold lv at q14 q16 q17
      rw [e0] at q14 q17
      clear e0 hall hpre r1 r3 hR hmm hst hL hnR hnl hv HF
      obtain ⟨m0, m1, m2, fm⟩ := id bm
      have HT := Lib.hid htk
      have HLR := Lib.hid hLR
      clear htk hLR
      go_wp2_with (first
        | (go_at_call 12; refine (q13.out _ (HL.out.keep kk9)).mono ?_; rintro e w13 ⟨rfl, hk⟩; have a := (Chg.refl No w13).alloc (.cells #[.string ⟨st.toArray⟩, .string ⟨#[]⟩, .int .i64 nR] 23); have kx := hk.trans a; have bm := bm.keep kx; have bk := BoxL.new w13 (.string ⟨st.toArray⟩) (.string ⟨#[]⟩) (.int .i64 nR) 23; have kk13 := kk9.trans kx; clear kx a hk m0 m1 m2 fm; obtain ⟨k0, k1, k2, fk⟩ := id bk)
        | (go_at_call 17; refine (q14.out _ (HL.out.keep kk13)).mono ?_; rintro e w14 ⟨rfl, hk⟩; have bm := bm.keep hk; have bk := bk.keep hk; have kk14 := kk13.trans hk; clear hk k0 k1 k2 fk; obtain ⟨m0, m1, m2, fm⟩ := id bm; obtain ⟨k0, k1, k2, fk⟩ := id bk)
        | (go_at_call 27; first
          | (with_reducible refine (q16.out _ (HL.out.keep kk14)).mono ?_; rintro e w16 ⟨va, rfl, oa, hk⟩; have ra := oa.readNo; have bm := bm.keep hk; have bk := bk.keep hk; have kk16 := kk14.trans hk; clear hk oa k0 k1 k2 fk m0 m1 m2 fm; obtain ⟨k0, k1, k2, fk⟩ := id bk)))
      go_at_call 27
      with_reducible refine (q17.out _ (HL.out.keep kk16)).mono ?_; rintro e w17 ⟨vr, rfl, or', hk⟩
      have rr := or'.readNo; have ra := ra.keep hk; have bm := bm.keep hk; have kk17 := kk16.trans hk; clear hk or' k0 k1 k2 fk
      obtain ⟨aa, ca, rfl, ha1, ha2, _, _, _⟩ := id ra
      obtain ⟨ar, cr, rfl, hr1, hr2, _, _, _⟩ := id rr
      obtain ⟨ax, cx, hsl2, rx⟩ := RF.upto 46 und_recs siz_recs ra nR hle; rw [HT.out] at rx
      have hLR := HLR.out
      go_wp2_with (go_at_call 41; refine (q18.out _ _ _ rr rx).mono ?_; rintro e w18 ⟨rfl, hk⟩; have bm := bm.keep hk; have kk18 := kk17.trans hk; clear hk; obtain ⟨m0, m1, m2, fm⟩ := id bm)
      all_goals go_ret
      all_goals exact ⟨rfl, kk18⟩
end Go.Proofs.YtmnohickmidfkaaDoor
