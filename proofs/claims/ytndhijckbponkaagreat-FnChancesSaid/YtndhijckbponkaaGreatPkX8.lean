import Derived.Test.YtndhijckbponkaaGreatBase
import Derived.BigQuiet
import Derived.Test.YtndhijckbponkaaGreatPf
/-
  A region that draws its order, whose own operations only read and whose calls leave what was there as it was (they may make memory): one walk of the lexical order, the worlds behind a family 'F'.
-/


namespace Go.Proofs.YtndhijckbponkaaGreat
open Go.RowKit

theorem wp_region_C {P : Program} {id : Nat} {Q : Exit → Act → World → Prop} {a : Act} {w : World} {l : List Oper} (hm : P.follows .mixedOrders = true) (hB : Region.lexB .any l.toArray = true)
    (h : ∀ (σ : Type) (_ : Nonempty σ) (F : σ → World), (∀ n, Chg No w (F n)) → (∀ n w'', Chg No (F n) w'' → ∃ m, w'' = F m) →
      wpQuiet P l.toArray (fun w' => ∃ n, w' = F n) (fun a' => ∀ w', (∃ n, w' = F n) → Q .normal a' w') l a) : (Code.region id l.toArray true).wp P Q a w := by
  have hh := h {w' // Chg No w w'} ⟨⟨w, Chg.refl No w⟩⟩ (fun n => n.1) (fun n => n.2) (fun n w'' hc => ⟨⟨w'', n.2.keep hc⟩, rfl⟩)
  exact wp_region_quiet (C := fun w' => ∃ n : {w' // Chg No w w'}, w' = n.1) hm hB ⟨⟨_, (Chg.refl No w).drew⟩, rfl⟩ (by simpa using hh)
theorem fam_ret {P : Program} {σ : Type} {F : σ → World} (hcl : ∀ n w'', Chg No (F n) w'' → ∃ m, w'' = F m) {f : FuncId} {args : Array Value} {n : σ} {v : Value}
    (h : Calls P f args (F n) (Ret fun r w' => r = v ∧ Chg No (F n) w')) : Calls P f args (F n) fun e w'' => e = .returned v ∧ ∃ m, w'' = F m :=
  h.mono fun e w'' ⟨r, he, hr, hc⟩ => ⟨by rw [he, hr], hcl n w'' hc⟩
end Go.Proofs.YtndhijckbponkaaGreat

/- valid chances, what they weigh: the reference's side, and the program's weights -/
namespace Go.Proofs.YtndhijckbponkaaGreat
open Go.RowKit

theorem takB_zero {p : Pr} (hp : bP (PrP p) = true) (q : List Int) : takB p 0 q = seqB p.sv.length q := by
  have h := (bP_iff.1 hp).1
  unfold takB
  rw [hp, inB_iff.2 ⟨by omega, by omega⟩]; rfl
set_option maxRecDepth 100000 in
set_option maxHeartbeats 2000000 in
theorem l11Chances_any (A : Nat → Prop) (v cv : Value) (p : Pr) (qs : List (List Int)) (ws : List Int) (w : World) (h : RPr A w v p) (hc : RCh A w cv qs ws) :
    Calls Tryz.prog 33 #[v, cv] w (Ret fun r w' => r = .bool (chaB p qs ws) ∧ Chg No w w') := by
  have hv := h
  have HD : Hid (chaB p qs ws = (bP (PrP p) && bP (ChP p.sv.length 12 6 qs ws))) := Lib.hid rfl
  obtain ⟨mv, sv, rfl, hm, hs⟩ := h
  obtain ⟨wv, qv, rfl, hw, hq⟩ := hc
  obtain ⟨ma, mc, rfl⟩ := hm.shape
  obtain ⟨sa, sc, rfl⟩ := hs.shape
  obtain ⟨qa, qc, rfl⟩ := hq.shape
  obtain ⟨wa, wn, wc, rfl, hwn⟩ : ∃ wa wn wc, wv = .slice wa wn wc ∧ wn = ws.length := by
    obtain ⟨a, c, e, _⟩ := hw
    exact ⟨a, _, c, e, rfl⟩
  have HWN := Lib.hid hwn
  clear hwn
  have hqs0 : (0 : Int) ≤ (qs.length : Int) := Int.natCast_nonneg _
  have hqs1 := hq.len
  go_enter Tryz.func33, Tryz.ntmps33
  go_wp2_with fail
  refine bx2 (R := fun W => Calls _ _ _ W _) (fun W0 k0 b0 b1 => ?_)
  refine (l8Good_any A _ p W0 (hv.keep k0)).mono ?_
  rintro e w1 ⟨_, rfl, rfl, k1⟩
  have kk := k0.keep k1
  have b0 := b0.keep k1
  have b1 := b1.keep k1
  have g0 := b0.c 0 _ rfl
  have g1 := b0.c 1 _ rfl
  have g2 := b1.c 0 _ rfl
  have g3 := b1.c 1 _ rfl
  cases h1 : bP (PrP p)
  · have H1 := Lib.hid h1
    clear h1
    go_wp2_with fail
    go_ret
    exact ⟨_, rfl, by rw [HD.out, H1.out]; rfl, kk⟩
  · have H1 := Lib.hid h1
    clear h1
    go_wp2_with fail
    refine (l1In_any _ _ _ _).mono ?_
    rintro e w2 ⟨rfl, rfl⟩
    cases h2 : inB (qs.length : Int) 1 12
    · have H := Lib.hid (chP_no1 (k := p.sv.length) (ws := ws) h2)
      clear h2
      go_wp2_with fail
      go_ret
      exact ⟨_, rfl, by rw [HD.out, H1.out, H.out]; rfl, kk⟩
    · have hq0 : 0 < qs.length := by have := (inB_iff.1 h2).1; omega
      have hq0' : (0 : Int) < (qs.length : Int) := by omega
      have H2 := Lib.hid h2
      clear h2
      by_cases hl : (wn : Int) = (qs.length : Int)
      · obtain rfl : wn = qs.length := by omega
        have HL : Hid ((ws.length : Int) = (qs.length : Int)) := Lib.hid (by rw [← HWN.out])
        clear hl
        go_wp2_with fail
        refine (l11Weights_any A _ ws 1 w1 (hw.keep kk)).mono ?_
        rintro e w3 ⟨rfl, rfl⟩
        cases h3 : wgB 1 ws
        · have H := Lib.hid (chP_no3 (k := p.sv.length) (qs := qs) h3)
          clear h3
          go_wp2_with fail
          go_ret
          exact ⟨_, rfl, by rw [HD.out, H1.out, H.out]; rfl, kk⟩
        · have H3 := Lib.hid h3
          clear h3
          go_wp2_with fail
          go_loopw [5] (fun z wr => ∃ i : Nat, i ≤ qs.length ∧ z = .int .i64 (i : Int) ∧ Hid (∀ j, j < i → qB p.sv.length (qs.getD 0 []).length (qs.getD j []) = true) ∧ Chg No w1 wr) (fun z _ => qs.length - (intOf z).toNat)
          case atStart => exact ⟨0, Nat.zero_le _, rfl, Lib.hid (fun i hi => absurd hi (Nat.not_lt_zero _)), Chg.refl _ _⟩
          case round =>
            obtain ⟨i, hi, rfl, HA, kr⟩ := hrel
            have hi0 : (0 : Int) ≤ (i : Int) := Int.natCast_nonneg _
            clear g0 g1 g2 g3
            have b0 := b0.keep kr
            have b1 := b1.keep kr
            have g0 := b0.c 0 _ rfl
            have g1 := b0.c 1 _ rfl
            have g2 := b1.c 0 _ rfl
            have g3 := b1.c 1 _ rfl
            have kkr := kk.keep kr
            by_cases hlt : i < qs.length
            · have hi1 : (i : Int) < (qs.length : Int) := by omega
              have hwi : IntKind.i64.wrap ((i : Int) + 1) = (i : Int) + 1 := IntWalk.i64_in _ (by omega)
              obtain ⟨qb, qo, xa, xc, rfl, hqb, hci, hri⟩ := (hq.keep kkr).row hlt
              obtain ⟨_, _, ya, yc, e, _, hc0, _⟩ := (hq.keep kkr).row hq0
              cases e
              rw [Nat.add_zero] at hc0
              obtain ⟨L, hL⟩ : ∃ L, (qs.getD 0 []).length = L := ⟨_, rfl⟩
              obtain ⟨y, hy⟩ : ∃ y, qs.getD i [] = y := ⟨_, rfl⟩
              rw [hL] at hc0
              rw [hy] at hci hri
              have HY := Lib.hid hy
              have HLL := Lib.hid hL
              clear hy hL
              have HQ : qB p.sv.length L y = false → Hid (bP (ChP p.sv.length 12 6 qs ws) = false) := fun h => Lib.hid (chP_no4 hlt (by rw [HY.out, HLL.out]; exact h))
              by_cases hyl : (y.length : Int) = (L : Int)
              · obtain rfl : L = y.length := by omega
                clear hyl
                by_cases h6 : 6 < (y.length : Int)
                · have H := HQ (by unfold qB; rw [decide_eq_false (by omega)]; rfl)
                  clear HQ
                  go_wp2_with fail
                  have h6n : 6 < (y.length : Int) := by omega
                  go_quiet (fail)
                  have kr := kr.keep ((Chg.refl No wr).drewN nq)
                  clear g0 g1 g2 g3 hci hc0
                  generalize wr.drewN nq = W at kr ⊢
                  go_wp2_with fail
                  go_ret
                  exact ⟨_, rfl, by rw [HD.out, H1.out, H.out]; rfl, kk.keep kr⟩
                · have HE : Hid (qB p.sv.length y.length y = seqB p.sv.length y) := Lib.hid (by unfold qB seqB; rw [decide_eq_true (by omega : y.length ≤ 6), decide_eq_true (rfl : y.length = y.length), decide_eq_true (by omega : y.length ≤ 60)]; rfl)
                  have HZ := Lib.hid (takB_zero H1.out y)
                  have h6' : (y.length : Int) ≤ 6 := by omega
                  go_wp2_with fail
                  refine wp_region_C (by kernel_rfl) (by kernel_rfl) (fun σ _ F hF hcl => ?_)
                  have d0 := fun n => (b0.keep (hF n)).c 0 _ rfl
                  have d1 := fun n => (b0.keep (hF n)).c 1 _ rfl
                  have d2 := fun n => (b1.keep (hF n)).c 0 _ rfl
                  have d3 := fun n => (b1.keep (hF n)).c 1 _ rfl
                  have dci := fun n => ((hF n).cellD qb (qo + i) hqb (fun e => e)).trans hci
                  have dc0 := fun n => ((hF n).cellD qb qo hqb (fun e => e)).trans hc0
                  have h6n : ¬ 6 < (y.length : Int) := by omega
                  have HT := Lib.hid (fun n => l8Takes_any A A _ _ p 0 y (F n) ((hv.keep kkr).keep (hF n)) (hri.keep (hF n)))
                  rw [HZ.out, ← HE.out] at HT
                  clear g0 g1 g2 g3 hci hc0
                  repeat (go_big_quiet_step ((go_at_call 100; exact fam_ret hcl (HT.out _))))
                  refine wpQuiet_nil ?_
                  rintro _ ⟨nq, rfl⟩
                  have kr := kr.keep (hF nq)
                  cases h5 : qB p.sv.length y.length y
                  · have H := HQ h5
                    clear HQ h5
                    go_wp2_with fail
                    go_ret
                    exact ⟨_, rfl, by rw [HD.out, H1.out, H.out]; rfl, kk.keep kr⟩
                  · have H5 := Lib.hid h5
                    clear HQ h5
                    go_wp2_with fail
                    go_round
                    case rel =>
                      refine ⟨i + 1, by omega, by go_num, Lib.hid (fun j hj => ?_), kr⟩
                      by_cases e : j = i
                      · subst e; rw [HY.out, HLL.out]; exact H5.out
                      · exact HA.out j (by omega)
                    case measure => simp [intOf]; omega
              · have H := HQ (by unfold qB; rw [decide_eq_false (by omega : ¬ y.length = L), Bool.false_and, Bool.and_false])
                clear HQ
                go_wp2_with fail
                have hne : ((y.length : Int) != (L : Int)) = true := bne_iff_ne.2 (by omega)
                go_quiet (fail)
                have kr := kr.keep ((Chg.refl No wr).drewN nq)
                clear g0 g1 g2 g3 hci hc0
                generalize wr.drewN nq = W at kr ⊢
                go_wp2_with fail
                go_ret
                exact ⟨_, rfl, by rw [HD.out, H1.out, H.out]; rfl, kk.keep kr⟩
            · have H : Hid (bP (ChP p.sv.length 12 6 qs ws) = true) := Lib.hid (chP_yes H2.out HL.out H3.out (fun j hj => HA.out j (by omega)))
              have hie : i = qs.length := by omega
              subst hie
              go_wp2_with fail
              go_ret
              exact ⟨_, rfl, by rw [HD.out, H1.out, H.out]; rfl, kkr⟩
      · have H := Lib.hid (chP_no2 (k := p.sv.length) (qs := qs) (ws := ws) (by rw [← HWN.out]; exact hl))
        go_wp2_with fail
        go_ret
        exact ⟨_, rfl, by rw [HD.out, H1.out, H.out]; rfl, kk⟩
set_option maxRecDepth 100000 in
set_option maxHeartbeats 1000000 in
theorem l11Start_any (A : Nat → Prop) (v cv : Value) (p : Pr) (s : Int) (qs : List (List Int)) (ws : List Int) (w : World) (h : RPr A w v p) (hc : RCh A w cv qs ws) :
    Calls Tryz.prog 41 #[v, .int .i64 s, cv] w (Ret fun r w' => r = .bool (drawB p s qs ws) ∧ Chg No w w') := by
  have hv := h
  have hc' := hc
  have HD : Hid (drawB p s qs ws = (chaB p qs ws && inB s 0 ((p.mv.length : Int) - 1))) := Lib.hid rfl
  obtain ⟨mv, sv, rfl, hm, hs⟩ := h
  obtain ⟨wv, qv, rfl, hw, hq⟩ := hc
  have hlm := hm.len
  have hl0 : (0 : Int) ≤ (p.mv.length : Int) := Int.natCast_nonneg _
  have hw1 : IntKind.i64.wrap ((p.mv.length : Int) - 1) = (p.mv.length : Int) - 1 := IntWalk.i64_in _ (by omega)
  obtain ⟨ma, mc, rfl⟩ := hm.shape
  obtain ⟨sa, sc, rfl⟩ := hs.shape
  obtain ⟨qa, qc, rfl⟩ := hq.shape
  obtain ⟨wa, wc, rfl, _⟩ := id hw
  go_enter Tryz.func41, Tryz.ntmps41
  go_wp2_with fail
  refine bx2 (R := fun W => Calls _ _ _ W _) (fun W0 k0 b0 b1 => ?_)
  refine (l11Chances_any A _ _ p qs ws W0 (hv.keep k0) (hc'.keep k0)).mono ?_
  rintro e w1 ⟨_, rfl, rfl, k1⟩
  have kk := k0.keep k1
  have b0 := b0.keep k1
  have g0 := b0.c 0 _ rfl
  have g1 := b0.c 1 _ rfl
  cases h1 : chaB p qs ws
  · have H1 := Lib.hid h1
    clear h1
    go_wp2_with fail
    go_ret
    exact ⟨_, rfl, by rw [HD.out, H1.out]; rfl, kk⟩
  · have H1 := Lib.hid h1
    clear h1
    go_wp2_with fail
    refine (l1In_any _ _ _ _).mono ?_
    rintro e w2 ⟨rfl, rfl⟩
    go_wp2_with fail
    go_ret
    exact ⟨_, rfl, by rw [HD.out, H1.out]; rfl, kk⟩
set_option maxRecDepth 100000 in
set_option maxHeartbeats 1000000 in
theorem specIsChances_any (A : Nat → Prop) (v cv : Value) (p : Pr) (qs : List (List Int)) (ws : List Int) (w : World) (h : RPr A w v p) (hc : RCh A w cv qs ws) :
    Calls Tryz.prog 8 #[v, cv] w (Ret2 fun r0 r1 w' => r0 = .bool (chaB p qs ws) ∧ r1 = .bool (bP (PrP p)) ∧ Chg No w w') := by
  have hv := h
  have hc' := hc
  have HD : Hid (chaB p qs ws = (bP (PrP p) && bP (ChP p.sv.length 12 6 qs ws))) := Lib.hid rfl
  obtain ⟨mv, sv, rfl, hm, hs⟩ := h
  obtain ⟨wv, qv, rfl, hw, hq⟩ := hc
  obtain ⟨ma, mc, rfl⟩ := hm.shape
  obtain ⟨sa, sc, rfl⟩ := hs.shape
  obtain ⟨qa, qc, rfl⟩ := hq.shape
  obtain ⟨wa, wc, rfl, _⟩ := id hw
  go_enter Tryz.func8, Tryz.ntmps8
  go_wp2_with fail
  refine bx2 (R := fun W => Calls _ _ _ W _) (fun W0 k0 b0 b1 => ?_)
  refine (l8Good_any A _ p W0 (hv.keep k0)).mono ?_
  rintro e w1 ⟨_, rfl, rfl, k1⟩
  have kk := k0.keep k1
  have b0 := b0.keep k1
  have b1 := b1.keep k1
  have g0 := b0.c 0 _ rfl
  have g1 := b0.c 1 _ rfl
  have g2 := b1.c 0 _ rfl
  have g3 := b1.c 1 _ rfl
  cases h1 : bP (PrP p)
  · have H1 := Lib.hid h1
    clear h1
    go_wp2_with fail
    go_ret2
    exact ⟨_, _, rfl, by rw [HD.out, H1.out]; rfl, by rw [H1.out]; rfl, kk⟩
  · have H1 := Lib.hid h1
    clear h1
    go_wp2_with fail
    refine (l11Chances_any A _ _ p qs ws w1 (hv.keep kk) (hc'.keep kk)).mono ?_
    rintro e w2 ⟨_, rfl, rfl, k2⟩
    clear g0 g1 g2 g3
    go_wp2_with fail
    go_ret2
    exact ⟨_, _, rfl, rfl, by rw [H1.out]; rfl, kk.keep k2⟩
end Go.Proofs.YtndhijckbponkaaGreat
