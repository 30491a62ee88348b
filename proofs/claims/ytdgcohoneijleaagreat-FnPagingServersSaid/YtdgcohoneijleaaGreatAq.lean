import Derived.Test.YtdgcohoneijleaaGreatPkX7
/- the work function algorithm's step: the program's walk -/
namespace Go.Proofs.YtdgcohoneijleaaGreat
open Go.RowKit

theorem calls_eq {P : Program} {f : FuncId} {args : Array Value} {w : World} {v : Value} (h : Calls P f args w (Ret fun r w' => r = v ∧ w = w')) : Calls P f args w fun e w' => e = .returned v ∧ w = w' :=
  h.mono fun _ _ ⟨_, he, h1, h2⟩ => ⟨by rw [he, h1], h2⟩
theorem swp_in {D : List (List Int)} {k : Nat} {a : List Int} (ha : a ∈ cfs D.length k) (s : Nat) {r : Nat} (hr : r < D.length) : swp a s (r : Int) ∈ cfs D.length k := swp_cfs ha s (by omega)
theorem svT_in {D : List (List Int)} (hm : MetP D) {k : Nat} {L : List Int} (hb : ∀ i, i < nC D.length k → 0 ≤ L.getD i 0 ∧ L.getD i 0 ≤ 1000000) {a : List Int} (ha : a ∈ cfs D.length k) {r : Nat} (hr : r < D.length) {s : Nat} (hs : s < a.length) :
    ∃ x : Nat, a.getD s 0 = (x : Int) ∧ x < D.length ∧ dD D (a.getD s 0) (r : Int) = cellA D x r ∧ 0 ≤ cellA D x r ∧ cellA D x r ≤ 99 ∧ 0 ≤ L.getD (cix D.length k (swp a s (r : Int))) 0 ∧ L.getD (cix D.length k (swp a s (r : Int))) 0 ≤ 1000000 := by
  obtain ⟨x, hx, hxl⟩ := pts_get (cfs_mem.1 ha).2.1 hs
  refine ⟨x, hx, hxl, by rw [hx, dD, Int.toNat_natCast, Int.toNat_natCast], (cell_in hm hxl hr).1, (cell_in hm hxl hr).2, ?_⟩
  exact hb _ (cix_val (swp_in ha s hr)).1
theorem svT_next (n k : Nat) (d : Int → Int → Int) (w a : List Int) (r : Int) (s : Nat) (c z : Int) (hc : w.getD (cix n k (swp a s r)) 0 + d (a.getD s 0) r = z) (hd : d (a.getD s 0) r = c) :
    svT n k d w a r (s + 1) = if z < (svT n k d w a r s).2.2 ∨ (z = (svT n k d w a r s).2.2 ∧ cmpL (swp a s r) (svT n k d w a r s).1 < 0) then (swp a s r, c, z) else svT n k d w a r s := by
  rw [svT, hc, hd]
set_option maxRecDepth 100000 in
set_option maxHeartbeats 4000000 in
theorem serve_any (A B C : Nat → Prop) (wv lv av : Value) (D : List (List Int)) (k : Nat) (L a : List Int) (r : Nat) (w : World) (hm : MetP D) (hk : 1 ≤ k ∧ k ≤ 3) (h : WkO A w wv D k) (hl : RI B w lv L) (ha : RI C w av a) (hL : L.length = nC D.length k)
    (hb : ∀ i, i < nC D.length k → 0 ≤ L.getD i 0 ∧ L.getD i 0 ≤ 1000000) (hac : a ∈ cfs D.length k) (hr : r < D.length) :
    Calls Tryz.prog 28 #[wv, lv, av, .int .i64 (r : Int)] w (Ret2 fun v0 v1 w' => OI w.heap.size w' v0 (svL D.length k (dD D) L a (r : Int)).1 ∧ v1 = .int .i64 (svL D.length k (dD D) L a (r : Int)).2 ∧ Chg No w w') := by
  obtain ⟨b, dv, cv, ov, rfl, hB, hd, hc, ho⟩ := h.val
  obtain ⟨la, lc, rfl, _⟩ := id hl
  obtain ⟨aa, ac, rfl, _⟩ := id ha
  obtain ⟨da, dc, rfl⟩ := hd.shape
  cases hh : hasB a (r : Int)
  · have hak : a.length = k := (cfs_mem.1 hac).1
    have HSV : Hid (svL D.length k (dD D) L a (r : Int) = ((svT D.length k (dD D) L a (r : Int) k).1, (svT D.length k (dD D) L a (r : Int) k).2.1)) := Lib.hid (by
      unfold hasB at hh
      unfold svL
      rw [hh]; rfl)
    have HIN := Lib.hid (fun s (hs : s < a.length) => svT_in hm hb hac hr hs)
    have HIX := Lib.hid (fun s W (kc : Chg No w W) (E : Nat → Prop) (xv : Value) (hx : RI E W xv (swp a s (r : Int))) => index_any No E b _ cv ov xv D.length k (swp a s (r : Int)) W (hB.keep kc) (hc.keep kc) hx (swp_in hac s hr) (nC_le hm.1.2 hk.2))
    have HIL := Lib.hid (fun s => (cix_val (swp_in hac s hr)).1)
    have HMV := Lib.hid (fun s W (kc : Chg No w W) (hs : s < a.length) => moved_any C _ a s (r : Int) W (ha.keep kc) hs)
    have HNX := Lib.hid (fun s => svT_next D.length k (dD D) L a (r : Int) s)
    have HDR : Hid (∀ x, x < D.length → (D.getD x []).length = D.length) := Lib.hid hm.2.1
    obtain ⟨N, hN⟩ : ∃ N, nC D.length k = N := ⟨_, rfl⟩
    rw [hN] at HIL hL
    rw [hL] at hl ⊢
    have hk3 : a.length ≤ 3 := by omega
    have HAK := Lib.hid hak
    have HLN := Lib.hid hL
    clear hm hk hb hac hN hL hak h hc ho
    have hr0 : (0 : Int) ≤ (r : Int) := Int.natCast_nonneg _
    have hr1 : (r : Int) < (D.length : Int) := by omega
    have HH := Lib.hid hh
    go_enter Tryz.func28, Tryz.ntmps28
    go_wp2_with fail
    refine (Contains_any _ _ a (r : Int) w ha).mono ?_
    rintro e w1 ⟨rfl, rfl⟩
    rw [HH.out]
    clear hh
    go_wp2_with fail
    go_loopw [10, 11, 12, 24] (fun o y m z wr => ∃ (s : Nat), s ≤ a.length ∧ z = .int .i64 (s : Int) ∧ OI w.heap.size wr o (svT D.length k (dD D) L a (r : Int) s).1 ∧ y = .int .i64 (svT D.length k (dD D) L a (r : Int) s).2.1 ∧ m = .int .i64 (svT D.length k (dD D) L a (r : Int) s).2.2 ∧ Chg No w wr) (fun _ _ _ z _ => a.length - (intOf z).toNat)
    case atStart => exact ⟨0, Nat.zero_le _, rfl, OI.nil _ _, rfl, rfl, Chg.refl _ _⟩
    case round =>
      obtain ⟨s, hs, rfl, hO, rfl, rfl, kr⟩ := hrel
      have hs0 : (0 : Int) ≤ (s : Int) := Int.natCast_nonneg _
      have HNX1 := Lib.hid (HNX.out s)
      obtain ⟨T, hT⟩ : ∃ T, svT D.length k (dD D) L a (r : Int) s = T := ⟨_, rfl⟩
      rw [hT] at hO HNX1 ⊢
      have HT := Lib.hid hT
      obtain ⟨bl, bc, bm⟩ := T
      simp only at hO ⊢
      obtain ⟨oa, oc, rfl, _⟩ := hO.view
      clear hT
      by_cases hlt : s < a.length
      · have hs1 : (s : Int) < (a.length : Int) := by omega
        have hws : IntKind.i64.wrap ((s : Int) + 1) = (s : Int) + 1 := IntWalk.i64_in _ (by omega)
        obtain ⟨ab, af, rfl, hab, hca⟩ := (ha.keep kr).cellN hlt
        obtain ⟨x, hx, hxl, hdx, hc0, hc1, hl0, hl1⟩ := HIN.out s hlt
        have HM1 := Lib.hid (HMV.out s wr kr hlt)
        have HI1 := Lib.hid (HIX.out s)
        have hil := HIL.out s
        obtain ⟨y, hy⟩ : ∃ y, cix D.length k (swp a s (r : Int)) = y := ⟨_, rfl⟩
        rw [hy] at HI1 hil hl0 hl1 HNX1
        obtain ⟨u, hu⟩ : ∃ u, L.getD y 0 = u := ⟨_, rfl⟩
        obtain ⟨c, hcc⟩ : ∃ c, cellA D x r = c := ⟨_, rfl⟩
        rw [hu] at hl0 hl1 HNX1
        rw [hcc] at hc0 hc1 hdx
        have HNX2 := Lib.hid (HNX1.out c (u + c) (by rw [hdx]) hdx)
        simp only at HNX2
        obtain ⟨own, hown⟩ : ∃ own, swp a s (r : Int) = own := ⟨_, rfl⟩
        rw [hown] at HM1 HI1 HNX2
        have hx' := hx
        rw [hx] at hca HM1
        have hw2 : IntKind.i64.wrap (u + c) = u + c := IntWalk.i64_in _ (by omega)
        clear HNX1 hx hy hdx hown hx'
        go_wp2_with fail
        refine HM1.out.mono ?_
        rintro e w2 ⟨mv, rfl, hmv, k2⟩
        obtain ⟨ma, mc, rfl, _⟩ := hmv.view
        have kr2 := kr.keep k2
        have hO2 := hO.keep k2
        have hmw := hmv.weak kr.size
        obtain ⟨nb, nf, rfl, hnb, hcn⟩ := (hl.keep kr2).cellN (j := y) (by rw [HLN.out]; exact hil)
        rw [hu] at hcn
        obtain ⟨db, df, ea, ec, rfl, hdb, hcd, hdr⟩ := (hd.keep kr2).row hxl
        have hdl := HDR.out x hxl
        obtain ⟨eb, ef, rfl, heb, hce⟩ := RI.cellN hdr (j := r) (by omega)
        rw [hdl] at hcd
        have hce2 : w2.cell? ⟨eb, ef + r, none⟩ = some (.int .i64 c) := by rw [← hcc]; exact hce
        have hx0 : (0 : Int) ≤ (x : Int) := Int.natCast_nonneg _
        have hx1 : (x : Int) < (D.length : Int) := by omega
        have hy0 : (0 : Int) ≤ (y : Int) := Int.natCast_nonneg _
        have hy1 : (y : Int) < (N : Int) := by omega
        have g0 := (hB.keep kr2).c 0 _ rfl
        have HI2 := Lib.hid (fun W (kc : Chg No w2 W) => (HI1.out W (kr2.keep kc) _ _ ((hmv.keep kc).readNo)))
        have hMR := hmv.readNo
        have HMW := Lib.hid hmw
        clear hca hu hcc hdl hdr hce hmv hO hmw
        go_wp2_with fail
        go_quiet ((go_at_call 51; with_reducible exact quiet_sym (calls_eq (HI2.out _ ((Chg.refl No w2).drewN _)))))
        have hd2 := (Chg.refl No w2).drewN nq
        have kr3 := kr2.keep hd2
        have hO3 := hO2.keep hd2
        have HM3 := Lib.hid (HMW.out.keep hd2)
        have hM3 := hMR.keep hd2
        have g1 := (hB.keep kr3).c 0 _ rfl
        have hcd3 := (hd2.cellD db (df + x) hdb (fun e => e)).trans hcd
        have hce3 := (hd2.cellD eb (ef + r) heb (fun e => e)).trans hce2
        clear hcn hcd hce2 g0 kr2 hO2 HMW hMR HI2 HM1 HI1 k2 kr
        generalize w2.drewN nq = W at hd2 kr3 hO3 HM3 hM3 g1 hcd3 hce3 ⊢
        clear hd2
        obtain ⟨z, hz⟩ : ∃ z, u + c = z := ⟨_, rfl⟩
        rw [hz] at HNX2
        try rw [hz]
        have HMR3 := Lib.hid hM3
        have HOR3 := Lib.hid hO3
        by_cases h1 : z < bm
        · have HY : Hid (svT D.length k (dD D) L a (r : Int) (s + 1) = (own, c, z)) := Lib.hid (by rw [HNX2.out, if_pos (.inl h1)])
          clear hM3 hO3
          go_wp2_with fail
          go_quiet (fail)
          have hd5 := (Chg.refl No W).drewN nq
          have kr5 := kr3.keep hd5
          have HM5 := Lib.hid (HM3.out.keep hd5)
          clear hcd3 hce3 g1
          generalize W.drewN nq = W5 at hd5 kr5 HM5 ⊢
          go_wp2_with fail
          go_round
          case rel => exact ⟨s + 1, hlt, by go_num, by rw [HY.out]; exact HM5.out, by rw [HY.out], by rw [HY.out], kr5⟩
          case measure => simp [intOf]; omega
        · by_cases h2 : z = bm
          · subst h2
            have HCM := Lib.hid (Compare_any _ _ _ _ own bl W hM3 hO3.readNo)
            have hnc := Lib.hid (show ∀ x, cmpL own bl = x → svT D.length k (dD D) L a (r : Int) (s + 1) = if x < 0 then (own, c, z) else (bl, bc, z) from fun x hx => by
              rw [HNX2.out, hx]
              by_cases e : x < 0
              · rw [if_pos e, if_pos (.inr ⟨rfl, e⟩)]
              · rw [if_neg e, if_neg (fun h => h.elim (fun h => by omega) (fun h => e h.2))])
            obtain ⟨q, hq⟩ : ∃ q, cmpL own bl = q := ⟨_, rfl⟩
            rw [hq] at HCM
            have HQ := Lib.hid (hnc.out q hq)
            clear hq hM3 hO3 hnc
            go_wp2_with fail
            refine HCM.out.mono ?_
            rintro e w4 ⟨rfl, rfl⟩
            by_cases h3 : q < 0
            · have HY : Hid (svT D.length k (dD D) L a (r : Int) (s + 1) = (own, c, z)) := Lib.hid (by rw [HQ.out, if_pos h3])
              go_wp2_with fail
              go_quiet (fail)
              have hd5 := (Chg.refl No W).drewN nq
              have kr5 := kr3.keep hd5
              have HM5 := Lib.hid (HM3.out.keep hd5)
              clear hcd3 hce3 g1
              generalize W.drewN nq = W5 at hd5 kr5 HM5 ⊢
              go_wp2_with fail
              go_round
              case rel => exact ⟨s + 1, hlt, by go_num, by rw [HY.out]; exact HM5.out, by rw [HY.out], by rw [HY.out], kr5⟩
              case measure => simp [intOf]; omega
            · have HY : Hid (svT D.length k (dD D) L a (r : Int) (s + 1) = (bl, bc, z)) := Lib.hid (by rw [HQ.out, if_neg h3])
              go_wp2_with fail
              go_round
              case rel => exact ⟨s + 1, hlt, by go_num, by rw [HY.out]; exact HOR3.out, by rw [HY.out], by rw [HY.out], kr3⟩
              case measure => simp [intOf]; omega
          · have HY : Hid (svT D.length k (dD D) L a (r : Int) (s + 1) = (bl, bc, bm)) := Lib.hid (by
              rw [HNX2.out, if_neg (fun h => h.elim h1 (fun h => h2 h.1))])
            clear hM3 hO3
            go_wp2_with fail
            go_round
            case rel => exact ⟨s + 1, hlt, by go_num, by rw [HY.out]; exact HOR3.out, by rw [HY.out], by rw [HY.out], kr3⟩
            case measure => simp [intOf]; omega
      · have hse : s = a.length := by omega
        have hs1 : ¬ (s : Int) < (a.length : Int) := by omega
        have HE : Hid (svL D.length k (dD D) L a (r : Int) = (bl, bc)) := Lib.hid (by
          have e := HT.out
          rw [show s = k from hse.trans HAK.out] at e
          rw [HSV.out, e])
        have HFN := Lib.hid (And.intro hO kr)
        clear hO kr
        go_wp2_with fail
        go_ret2
        exact ⟨_, _, rfl, by rw [HE.out]; exact HFN.out.1, by rw [HE.out]; rfl, HFN.out.2⟩
  · have HSV : Hid (svL D.length k (dD D) L a (r : Int) = (a, 0)) := Lib.hid (by
      unfold hasB at hh
      unfold svL
      rw [hh]; rfl)
    have HCO := Lib.hid (And.intro hh ha)
    have hL1 : L.length ≤ 17592186044416 := hl.len
    clear hm hk hb hac h hc ho hd hB hL
    go_enter Tryz.func28, Tryz.ntmps28
    go_wp2_with fail
    refine (Contains_any _ _ a (r : Int) w ha).mono ?_
    rintro e w1 ⟨rfl, rfl⟩
    rw [HCO.out.1]
    clear hh
    go_wp2_with fail
    refine (Clone_any _ _ a w HCO.out.2).mono ?_
    rintro e w2 ⟨cv, rfl, hcv, k2⟩
    go_wp2_with fail
    go_ret2
    exact ⟨_, _, rfl, by rw [HSV.out]; exact hcv, by rw [HSV.out]; rfl, k2⟩
end Go.Proofs.YtdgcohoneijleaaGreat
