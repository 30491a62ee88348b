import Derived.Test.YtndhijckbponkaaRd
import Derived.Test.YtndhijckbponkaaRa
import Derived.Test.YtndhijckbponkaaH
import Derived.ChangeKeysEq
/- the law FnBestReply -/
namespace Go.Proofs.Ytndhijckbponkaa
open Go.RowKit

theorem fam_ret2 {P : Program} {σ : Type} {F : σ → World} (hcl : ∀ n w'', Chg No (F n) w'' → ∃ m, w'' = F m) {f : FuncId} {args : Array Value} {n : σ} {v0 v1 : Value}
    (h : Calls P f args (F n) (Ret2 fun r0 r1 w' => r0 = v0 ∧ r1 = v1 ∧ Chg No (F n) w')) : Calls P f args (F n) fun e w'' => e = .returned (.tuple #[v0, v1]) ∧ ∃ m, w'' = F m :=
  h.mono fun e w'' ⟨r0, r1, he, h0, h1, hc⟩ => ⟨by rw [he, h0, h1], hcl n w'' hc⟩
theorem RPr.rows {A : Nat → Prop} {w : World} {mv sv : Value} {m s : List (List Int)} (h : RPr A w (.agg #[mv, sv]) ⟨m, s⟩) : RII A w mv m ∧ RII A w sv s := by
  obtain ⟨a, c, e, h1, h2⟩ := h
  simp only [Value.agg.injEq, Array.mk.injEq, List.cons.injEq, and_true] at e
  obtain ⟨rfl, rfl⟩ := e
  exact ⟨h1, h2⟩
theorem RCh.rows {A : Nat → Prop} {w : World} {wv qv : Value} {qs : List (List Int)} {ws : List Int} (h : RCh A w (.agg #[wv, qv]) qs ws) : RI A w wv ws ∧ RII A w qv qs := by
  obtain ⟨a, c, e, h1, h2⟩ := h
  simp only [Value.agg.injEq, Array.mk.injEq, List.cons.injEq, and_true] at e
  obtain ⟨rfl, rfl⟩ := e
  exact ⟨h1, h2⟩
theorem PrP.mvl {p : Pr} (h : PrP p) {a : Nat} (ha : a < p.mv.length) : (p.mv.getD a []).length = p.mv.length := h.2.1.2.1 a ha
theorem PrP.svl {p : Pr} (h : PrP p) {r : Nat} (hr : r < p.sv.length) : (p.sv.getD r []).length = p.mv.length := (h.2.2.2 r hr).1
set_option maxRecDepth 100000 in
set_option maxHeartbeats 4000000 in
theorem law_FnBestReply (v : Value) (n : Nat) (w : World) (h : Code w v n) :
    Calls Try.prog 6 #[v] w fun e w' => e = .returned (.bool true) ∧ Chg No w w' := by
  obtain ⟨ca0, cc0, rfl⟩ := h.shape
  go_enter Try.func6, Try.ntmps6
  go_wp2_with fail
  refine (vBig_any _ n w h).mono ?_
  rintro e w1 ⟨rfl, rfl⟩
  by_cases hbig : (65536 : Int) < (n : Int)
  · rw [decide_eq_true hbig]
    go_wp2_with fail
    go_ret
    exact ⟨rfl, Chg.refl _ _⟩
  · rw [decide_eq_false hbig]
    go_wp2_with fail
    refine (DrawBestReply_any _ n w1 h (by omega)).mono ?_
    rintro e w2 ⟨pv, cv, sv, st, P, qs, ws, l, rfl, hP, hC, hS, hq13, hq7, k2⟩
    obtain ⟨m, s⟩ := P
    obtain ⟨mv, sv', rfl, hm, hs⟩ := id hP
    dsimp only at hm hs
    obtain ⟨ma, mc, rfl, _⟩ := hm.view
    obtain ⟨sa, sc, rfl, _⟩ := hs.view
    obtain ⟨wv, qv, rfl, hw, hq⟩ := id hC
    obtain ⟨wa, wc, rfl, _⟩ := id hw
    obtain ⟨qa, qc, rfl⟩ := hq.shape
    obtain ⟨oa, oc, rfl, _⟩ := id hS
    clear hm hs hw hq
    go_wp2_with fail
    refine bx2 (R := fun W => Calls _ _ _ W _) (fun W0 k0 b3 b5 => ?_)
    replace hP := hP.keep k0
    replace hC := hC.keep k0
    replace hS := hS.keep k0
    have kk := k2.keep k0
    obtain ⟨X3, hX3⟩ : ∃ X, w2.heap.size = X := ⟨_, rfl⟩
    rw [hX3] at b3 b5 ⊢
    clear k0 hX3 k2 h
    refine (implBestReply_any No No _ _ _ ⟨m, s⟩ st qs ws l W0 hP hC hS).mono ?_
    rintro e w4 ⟨_, _, rfl, rfl, rfl, k4⟩
    obtain ⟨rv, hrv⟩ : ∃ rv, repV ⟨m, s⟩ st qs ws l = rv := ⟨_, rfl⟩
    obtain ⟨rb, hrb⟩ : ∃ rb, repB ⟨m, s⟩ st qs ws l = rb := ⟨_, rfl⟩
    have HRR := Lib.hid (And.intro hrv hrb)
    rw [hrv, hrb]
    clear hrv hrb
    replace hP := hP.keep k4
    replace hC := hC.keep k4
    replace hS := hS.keep k4
    replace kk := kk.keep k4
    replace b3 := b3.keep k4
    replace b5 := b5.keep k4
    have g0 := b3.c 0 _ rfl
    have g1 := b3.c 1 _ rfl
    have g2 := b5.c 0 _ rfl
    have g3 := b5.c 1 _ rfl
    clear k4
    go_wp2_with fail
    refine (specBestReply_any No No _ _ _ ⟨m, s⟩ st qs ws l w4 hP hC hS).mono ?_
    rintro e w5 ⟨_, _, rfl, rfl, rfl, k5⟩
    rw [HRR.out.1, HRR.out.2]
    replace hP := hP.keep k5
    replace hC := hC.keep k5
    replace kk := kk.keep k5
    replace b3 := b3.keep k5
    replace b5 := b5.keep k5
    clear hS HRR g0 g1 g2 g3
    have g0 := b3.c 0 _ rfl
    have g1 := b3.c 1 _ rfl
    have g2 := b5.c 0 _ rfl
    have g3 := b5.c 1 _ rfl
    have hbb : (rb != rb) = false := bne_self_eq_false _
    have hvv : (rv != rv) = false := bne_self_eq_false _
    clear k5
    go_wp2_with fail
    refine (implBestExpected_any No _ _ ⟨m, s⟩ st qs ws w5 hP hC).mono ?_
    rintro e w6 ⟨_, _, rfl, rfl, rfl, k6⟩
    replace hP := hP.keep k6
    replace hC := hC.keep k6
    replace kk := kk.keep k6
    replace b3 := b3.keep k6
    replace b5 := b5.keep k6
    clear g0 g1 g2 g3 hbb hvv k6
    cases hd : drawB ⟨m, s⟩ st qs ws
    · rw [show bexV ⟨m, s⟩ st qs ws = ⟨0, 0, false⟩ by unfold bexV; rw [hd]; rfl]
      have ka := kk.alloc (.cells #[.int .i64 0, .int .i64 0] 46)
      clear hd
      go_wp2_with fail
      go_ret
      exact ⟨rfl, ka⟩
    · obtain ⟨S, rfl, f⟩ := BrF.of hd
      have HL := Lib.hid (reply_law f)
      have hokk := (reply_law f).1
      obtain ⟨fr, hfr⟩ : ∃ fr, bexV ⟨m, s⟩ (S : Int) qs ws = fr := ⟨_, rfl⟩
      rw [hfr] at hokk ⊢
      have HFR := Lib.hid hfr
      have b11 := BoxN.new w6 #[.int .i64 fr.num, .int .i64 fr.den] 46
      have ka := (Chg.refl No w6).alloc (.cells #[.int .i64 fr.num, .int .i64 fr.den] 46)
      rw [hokk]
      obtain ⟨X11, hX11⟩ : ∃ X, w6.heap.size = X := ⟨_, rfl⟩
      rw [hX11] at b11
      replace hP := hP.keep ka
      replace hC := hC.keep ka
      replace kk := kk.keep ka
      replace b3 := b3.keep ka
      replace b5 := b5.keep ka
      have HF := Lib.hid f
      clear hd hfr hokk ka f
      go_wp2_with fail
      clear hX11
      generalize w6.alloc _ = W at *
      have hln : ws.length = qs.length := HF.out.gd.len
      have HLN := Lib.hid hln
      rw [hln] at b5 hC ⊢
      clear hln
      go_loopw [13, 14] (fun a z wr => ∃ i : Nat, i ≤ qs.length ∧ a = .int .i64 (paidR ⟨m, s⟩ qs ws S i) ∧ z = .int .i64 (i : Int) ∧ Chg No W wr) (fun _ z _ => qs.length - (intOf z).toNat)
      case atStart => exact ⟨0, Nat.zero_le _, rfl, rfl, Chg.refl _ _⟩
      case round =>
        obtain ⟨i, hi, rfl, rfl, kr⟩ := hrel
        have hi0 : (0 : Int) ≤ (i : Int) := Int.natCast_nonneg _
        obtain ⟨pd, hpd⟩ : ∃ pd, paidR ⟨m, s⟩ qs ws S i = pd := ⟨_, rfl⟩
        have hpd9 : 0 ≤ pd ∧ pd ≤ 77112 := by
          rw [← hpd]
          have e1 := HF.out.paid i hi
          have e2 := HF.out.gd.q0.2
          omega
        by_cases hlt : i < qs.length
        · have hi1 : (i : Int) < (qs.length : Int) := by omega
          have hwi : IntKind.i64.wrap ((i : Int) + 1) = (i : Int) + 1 := IntWalk.i64_in _ (by omega)
          obtain ⟨qb, qo, xa, xc, rfl, hqb, hcq, hrw⟩ := (hC.rows.2).row hlt
          have hqsq := (HF.out.seq hlt).1
          have hw9 := HF.out.wt hlt
          have HST := Lib.hid (fun k (hk : k < (qs.getD i []).length) => And.intro (HF.out.repV hlt hk) (And.intro (HF.out.repB hlt hk) (And.intro (HF.out.req hlt hk) (And.intro (HF.out.step hlt hk) (And.intro (HF.out.wco hlt (Nat.succ_le_of_lt hk)) (coR_succ (p := ⟨m, s⟩) (qs := qs) (ws := ws) (S := S) i k))))))
          have HSL := Lib.hid (fun k (hk : k ≤ (qs.getD i []).length) => And.intro (HF.out.st hlt hk) (HF.out.wco hlt hk))
          have HNX : Hid (paidR ⟨m, s⟩ qs ws S (i + 1) = pd + ws.getD i 0 * coR ⟨m, s⟩ qs ws S i (qs.getD i []).length) := Lib.hid (by rw [← hpd]; rfl)
          obtain ⟨wb, wo, hwa, hwb, hcw⟩ := (hC.rows.1).cellN (j := i) (by rw [HLN.out]; exact hlt)
          subst hwa
          obtain ⟨x, hx⟩ : ∃ x, ws.getD i 0 = x := ⟨_, rfl⟩
          obtain ⟨row, hrow⟩ : ∃ row, qs.getD i [] = row := ⟨_, rfl⟩
          rw [hx] at hcw hw9 HST HSL HNX
          rw [hrow] at hcq hrw hqsq HST HSL HNX
          rw [hpd]
          have hb5 := b5.keep kr
          have g2 := hb5.c 1 _ rfl
          clear hpd hx hrow
          go_wp2_with fail
          go_loopw [13, 15, 16] (fun a t z wi => ∃ k : Nat, k ≤ row.length ∧ a = .int .i64 (pd + x * coR ⟨m, s⟩ qs ws S i k) ∧ t = .int .i64 (stR ⟨m, s⟩ qs ws S i k : Int) ∧ z = .int .i64 (k : Int) ∧ Chg No W wi) (fun _ _ z _ => row.length - (intOf z).toNat)
          case atStart => exact ⟨0, Nat.zero_le _, by rw [show coR ⟨m, s⟩ qs ws S i 0 = 0 from rfl, Int.mul_zero, Int.add_zero], rfl, rfl, kr⟩
          case round =>
            clear g2 hb5
            obtain ⟨k, hk, rfl, rfl, rfl, ki⟩ := hrel
            have hk0 : (0 : Int) ≤ (k : Int) := Int.natCast_nonneg _
            have hb5 := b5.keep ki
            have hb3 := b3.keep ki
            have g2 := hb5.c 1 _ rfl
            have g20 := hb5.c 0 _ rfl
            have g0 := hb3.c 0 _ rfl
            have g1 := hb3.c 1 _ rfl
            have hcq1 := (ki.cellD qb (qo + i) hqb (fun e => e)).trans hcq
            by_cases hkl : k < row.length
            · have hk1 : (k : Int) < (row.length : Int) := by omega
              have hwk : IntKind.i64.wrap ((k : Int) + 1) = (k : Int) + 1 := IntWalk.i64_in _ (by omega)
              obtain ⟨e1, e2, ⟨r, hr, hrs, _⟩, hst, hwc, hcs⟩ := HST.out k hkl
              obtain ⟨hA, hco⟩ := HSL.out k hk
              obtain ⟨hB, _⟩ := HSL.out (k + 1) hkl
              rw [hr, Int.toNat_natCast] at hst hcs
              obtain ⟨A, hAe⟩ : ∃ A, stR ⟨m, s⟩ qs ws S i k = A := ⟨_, rfl⟩
              obtain ⟨B, hBe⟩ : ∃ B, stR ⟨m, s⟩ qs ws S i (k + 1) = B := ⟨_, rfl⟩
              obtain ⟨c0, hc0⟩ : ∃ cc, coR ⟨m, s⟩ qs ws S i k = cc := ⟨_, rfl⟩
              rw [hAe] at e1 e2 hst hcs hA ⊢
              rw [hBe] at e1 hst hcs hB
              rw [hc0] at hcs hco ⊢
              obtain ⟨u, hu⟩ : ∃ u, mvA ⟨m, s⟩ A B = u := ⟨_, rfl⟩
              obtain ⟨y, hy⟩ : ∃ y, svA ⟨m, s⟩ r B = y := ⟨_, rfl⟩
              rw [hu, hy] at hst hcs
              obtain ⟨uv, huv⟩ : ∃ uv, u + y = uv := ⟨_, rfl⟩
              rw [huv] at hst hcs
              obtain ⟨xp, hxp⟩ : ∃ xp, x * uv = xp := ⟨_, rfl⟩
              obtain ⟨xc0, hxc0⟩ : ∃ xp, x * c0 = xp := ⟨_, rfl⟩
              have hnx : pd + x * coR ⟨m, s⟩ qs ws S i (k + 1) = pd + xc0 + xp := by rw [hcs, Int.mul_add, hxc0, hxp]; omega
              have hwc' : x * coR ⟨m, s⟩ qs ws S i (k + 1) = xc0 + xp := by rw [hcs, Int.mul_add, hxc0, hxp]
              rw [hwc'] at hwc
              rw [hxc0] at hco ⊢
              have hxp0 : 0 ≤ xp := by rw [← hxp]; exact Int.mul_nonneg (by omega) hst.1
              have hw1 : IntKind.i64.wrap (u + y) = uv := by rw [huv]; exact IntWalk.i64_in _ (by omega)
              have hw2 : IntKind.i64.wrap (x * uv) = xp := by rw [hxp]; exact IntWalk.i64_in _ (by omega)
              have hw3 : IntKind.i64.wrap (pd + xc0 + xp) = pd + xc0 + xp := IntWalk.i64_in _ (by omega)
              have HNXK := Lib.hid hnx
              have HBE := Lib.hid hBe
              obtain ⟨mb, mo, ra, rc, rfl, hmb, hcm, hmr⟩ := (hP.rows.1).row hA
              obtain ⟨tb, tf, ta, tc, rfl, htb, hct, htr⟩ := (hP.rows.2).row hrs
              have hml : (m.getD A []).length = m.length := HF.out.pr.mvl hA
              have hsl : (s.getD r []).length = m.length := HF.out.pr.svl hrs
              obtain ⟨rb2, ro2, rfl, hrb2, hcm2⟩ := hmr.cellN (j := B) (by rw [hml]; exact hB)
              obtain ⟨tb2, to2, rfl, htb2, hct2⟩ := htr.cellN (j := B) (by rw [hsl]; exact hB)
              obtain ⟨xb2, xo2, rfl, hxb2, hcx2⟩ := hrw.cellN (j := k) hkl
              rw [show (m.getD A []).getD B 0 = u from hu] at hcm2
              rw [show (s.getD r []).getD B 0 = y from hy] at hct2
              rw [hr] at hcx2
              rw [hml] at hcm
              rw [hsl] at hct
              have hxr : RI No W (.slice (some ⟨xb2, xo2, none⟩) (k + 1) xc) (row.take (k + 1)) := by
                have := hrw.slice 0 (k + 1) (by omega) hkl
                simpa [sliced, Addr.add] using this
              have hxc : row.length ≤ xc := by
                obtain ⟨_, _, e, hc, _⟩ := hrw
                simp only [Value.slice.injEq] at e
                omega
              have hx1 : (k : Int) + 1 ≤ (xc : Int) := by omega
              have hx0 : (0 : Int) ≤ (k : Int) + 1 := by omega
              have hA0 : (0 : Int) ≤ (A : Int) := Int.natCast_nonneg _
              have hB0 : (0 : Int) ≤ (B : Int) := Int.natCast_nonneg _
              have hr0 : (0 : Int) ≤ (r : Int) := Int.natCast_nonneg _
              have hA1 : (A : Int) < (m.length : Int) := by omega
              have hB1 : (B : Int) < (m.length : Int) := by omega
              have hr1 : (r : Int) < (s.length : Int) := by omega
              have HBR := Lib.hid (And.intro e1 e2)
              clear e1 e2 hst hcs hwc hwc' hnx hu hy huv hxp hxc0 hAe hBe hc0 hr hmr htr hml hsl
              go_wp2_with fail
              refine wp_region_C (by kernel_rfl) (by kernel_rfl) (fun σ _ F hF hcl => ?_)
              have kF := fun n => ki.keep (hF n)
              have d0 := fun n => (b3.keep (kF n)).c 0 _ rfl
              have d1 := fun n => (b3.keep (kF n)).c 1 _ rfl
              have d2 := fun n => (b5.keep (kF n)).c 0 _ rfl
              have d3 := fun n => (b5.keep (kF n)).c 1 _ rfl
              have d4 := fun n => ((kF n).cellD qb (qo + i) hqb (fun e => e)).trans hcq
              have HB : Hid (∀ n, Calls Try.prog 14 #[.agg #[.slice (some ⟨mb, mo, none⟩) m.length mc, .slice (some ⟨tb, tf, none⟩) s.length sc], .int .i64 (A : Int), .agg #[.slice (some ⟨wb, wo, none⟩) qs.length wc, .slice (some ⟨qb, qo, none⟩) qs.length qc], .slice (some ⟨xb2, xo2, none⟩) (k + 1) xc] (F n) (Ret2 fun r0 r1 w' => r0 = .int .i64 (B : Int) ∧ r1 = .bool true ∧ Chg No (F n) w')) := Lib.hid (fun n => by
                have := implBestReply_any No No _ _ _ ⟨m, s⟩ (A : Int) qs ws (row.take (k + 1)) (F n) (hP.keep (kF n)) (hC.keep (kF n)) (hxr.keep (kF n))
                rw [HBR.out.1, HBR.out.2] at this
                exact this)
              clear g0 g1 g2 g20 hcq1
              repeat (go_big_quiet_step ((go_at_call 14; exact fam_ret2 hcl (HB.out _))))
              refine wpQuiet_nil ?_
              rintro _ ⟨nq, rfl⟩
              have kr1 := kF nq
              clear d0 d1 d2 d3 d4 HB hcl
              generalize F nq = W1 at kr1 ⊢
              clear hF kF F
              have g0 := (b3.keep kr1).c 0 _ rfl
              have g1 := (b3.keep kr1).c 1 _ rfl
              have g2 := (b5.keep kr1).c 0 _ rfl
              have g3 := (b5.keep kr1).c 1 _ rfl
              have g4 := (kr1.cellD qb (qo + i) hqb (fun e => e)).trans hcq
              have g5 := (kr1.cellD wb (wo + i) hwb (fun e => e)).trans hcw
              have g6 := (kr1.cellD mb (mo + A) hmb (fun e => e)).trans hcm
              have g7 := (kr1.cellD tb (tf + r) htb (fun e => e)).trans hct
              have g8 := (kr1.cellD rb2 (ro2 + B) hrb2 (fun e => e)).trans hcm2
              have g9 := (kr1.cellD tb2 (to2 + B) htb2 (fun e => e)).trans hct2
              have g10 := (kr1.cellD xb2 (xo2 + k) hxb2 (fun e => e)).trans hcx2
              go_wp2_with fail
              go_quiet (fail)
              go_wp2_with fail
              go_round
              case rel => exact ⟨k + 1, hkl, by rw [HNXK.out], by rw [HBE.out], by go_num, kr1.keep ((Chg.refl No W1).drewN nq)⟩
              case measure => simp [intOf]; omega
            · have hke : k = row.length := by omega
              subst hke
              go_wp2_with fail
              go_round
              case rel => exact ⟨i + 1, by omega, by rw [HNX.out], by go_num, ki⟩
              case measure => simp [intOf]; omega
        · have hie : i = qs.length := by omega
          subst hie
          obtain ⟨_, h2, h3, h4, h5, h6, h7, h8⟩ := HL.out
          rw [hpd] at h2 ⊢
          rw [HFR.out] at h2 h3 h4 h5 h6
          obtain ⟨W0', hW0'⟩ : ∃ x, sumW ws = x := ⟨_, rfl⟩
          have HV : Hid (∀ W', Chg No W W' → Calls Try.prog 26 #[.slice wa qs.length wc] W' fun e w' => e = .returned (.int .i64 W0') ∧ W' = w') := Lib.hid (fun W' k => hW0' ▸ vSumW_any No _ ws W' ((hC.keep k).rows.1) (ch_bound HF.out.ch))
          rw [hW0'] at h2 h7 h8
          obtain ⟨tt, htt⟩ : ∃ tt, pd * fr.den = tt := ⟨_, rfl⟩
          have ht9 : 0 ≤ tt ∧ tt ≤ 10000000 := by
            rw [← htt]
            refine ⟨Int.mul_nonneg hpd9.1 (by omega), ?_⟩
            have e1 : pd * fr.den ≤ pd * 108 := Int.mul_le_mul_of_nonneg_left h6 hpd9.1
            omega
          have hw1 : IntKind.i64.wrap (pd * fr.den) = tt := by rw [htt]; exact IntWalk.i64_in _ (by omega)
          have hw2 : IntKind.i64.wrap (fr.num * W0') = tt := by rw [h2, htt]; exact IntWalk.i64_in _ (by omega)
          have g0 := (b11.keep kr).c 0 _ rfl
          have g1 := (b11.keep kr).c 1 _ rfl
          have g2 := (b5.keep kr).c 0 _ rfl
          have g3 := (b5.keep kr).c 1 _ rfl
          clear h2 h3 h4 h5 h6 h7 h8 htt hpd hW0'
          go_wp2_with fail
          go_quiet ((go_at_call 26; with_reducible exact quiet_sym (HV.out _ (kr.keep ((Chg.refl No wr).drewN _)))))
          trace_state
          go_wp2_with fail
          go_ret
          exact ⟨rfl, kk.keep (kr.keep ((Chg.refl No wr).drewN nq))⟩
end Go.Proofs.Ytndhijckbponkaa
