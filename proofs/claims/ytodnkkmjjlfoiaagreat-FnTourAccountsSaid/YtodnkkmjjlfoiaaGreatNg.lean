import Derived.Test.YtodnkkmjjlfoiaaGreatNf
/- FnTourAccounts: the law -/
namespace Go.Proofs.YtodnkkmjjlfoiaaGreat
open Go.RowKit

theorem accL_get (t : To) (n j : Nat) (hj : j < n) : (accL t n).getD (j * 2) 0 = (t.ps.getD j dPl).fa ∧ (accL t n).getD (j * 2 + 1) 0 = fewT t j := by
  induction n with
  | zero => omega
  | succ n ih =>
    have hs : accL t (n + 1) = accL t n ++ [(t.ps.getD n dPl).fa, fewT t n] := by
      unfold accL
      rw [List.range_succ, List.flatMap_append]
      simp
    have hl := accL_len t n
    rw [hs, getD_appL, getD_appL]
    by_cases e : j < n
    · rw [if_pos (by omega), if_pos (by omega)]
      exact ih e
    · have : j = n := by omega
      subst this
      rw [if_neg (by omega), if_neg (by omega), hl, show j * 2 + 1 - j * 2 = 1 by omega, Nat.sub_self]
      exact ⟨rfl, rfl⟩
structure BxP (w : World) (b : Nat) (v0 v1 : Value) : Prop where
  c0 : w.cell? ⟨b, 0, none⟩ = some v0
  c1 : w.cell? ⟨b, 1, none⟩ = some v1
theorem BxP.new (w : World) (v0 v1 : Value) (t : TypeId) : BxP (w.alloc (.cells #[v0, v1] t)) w.heap.size v0 v1 := ⟨by rw [World.cell?_alloc_new]; rfl, by rw [World.cell?_alloc_new]; rfl⟩
theorem BxP.keep {w w' : World} {b : Nat} {v0 v1 : Value} (h : BxP w b v0 v1) (hc : Chg No w w') : BxP w' b v0 v1 := by
  have hb := World.block_lt_of_cell? w _ h.c0
  exact ⟨(hc.cellD b 0 hb (fun e => e)).trans h.c0, (hc.cellD b 1 hb (fun e => e)).trans h.c1⟩
set_option maxRecDepth 100000 in
set_option maxHeartbeats 16000000 in
theorem law_FnTourAccounts (v : Value) (N : Nat) (w : World) (h : Code w v N) :
    Calls Tryz.prog 5 #[v] w fun e w' => e = .returned (.bool true) ∧ Chg No w w' := by
  obtain ⟨a, cp, rfl⟩ := h.shape
  go_enter Tryz.func5, Tryz.ntmps5
  go_wp2_with fail
  refine (vBig_any _ _ _ h).mono ?_
  rintro e w0 ⟨rfl, rfl⟩
  by_cases hbig : (65536 : Int) < (N : Int)
  · go_wp2_with fail
    go_ret
    exact ⟨rfl, Chg.refl No _⟩
  · go_wp2_with fail
    refine (DrawAccount_any _ _ _ h (by omega)).mono ?_
    rintro e w1 ⟨v0, t, rfl, hT, kk⟩
    have HCO := Lib.hid h
    clear h
    obtain ⟨pv, rv, hv0, hps, hrq⟩ := id hT
    obtain ⟨p1, p3, rfl, _⟩ := id hps
    obtain ⟨r1, r3, rfl, _⟩ := id hrq
    subst hv0
    clear hps hrq
    have b3 := Box3.new w1 (.int .i64 t.items) (.slice p1 t.ps.length p3) (.slice r1 t.reqs.length r3) 31
    have ka := (Chg.refl No w1).alloc (.cells #[.int .i64 t.items, .slice p1 t.ps.length p3, .slice r1 t.reqs.length r3] 31)
    replace hT := hT.keep ka
    replace kk := kk.keep ka
    clear ka
    obtain ⟨c0, c1, c2, _⟩ := id b3
    go_wp2_with fail
    clear c0 c1 c2
    obtain ⟨B3, hB3⟩ : ∃ B3, w1.heap.size = B3 := ⟨_, rfl⟩
    rw [hB3] at b3 ⊢
    clear hB3
    generalize w1.alloc (.cells #[.int .i64 t.items, .slice p1 t.ps.length p3, .slice r1 t.reqs.length r3] 31) = W2 at b3 hT kk ⊢
    obtain ⟨ok, hok⟩ : ∃ ok, tourB t = ok := ⟨_, rfl⟩
    obtain ⟨n, hn⟩ : ∃ n, accN t = n := ⟨_, rfl⟩
    have hn4 : n ≤ 1000 := by
      rw [← hn]; unfold accN
      cases hh : tourB t
      · simp
      · rw [if_pos rfl]; have := (tour_len hh).1; omega
    have HOK := Lib.hid hok
    have HN := Lib.hid hn
    have q := implAccount_any _ t W2 hT
    rw [hok, hn] at q
    refine q.mono ?_
    rintro e w3 ⟨va, _, rfl, rfl, hO, k3⟩
    clear q
    have hA := hO.readNo
    clear hO
    replace b3 := b3.keep k3
    replace hT := hT.keep k3
    replace kk := kk.keep k3
    clear k3
    obtain ⟨xa, xc, rfl, _⟩ := id hA
    obtain ⟨c0, c1, c2, _⟩ := id b3
    go_wp2_with fail
    clear c0 c1 c2
    have q := specAccount_any _ t w3 hT
    rw [hok, hn] at q
    refine q.mono ?_
    rintro e w4 ⟨va', _, rfl, rfl, hO, k4⟩
    clear q
    have hA' := hO.readNo
    clear hO
    replace hA := hA.keep k4
    replace b3 := b3.keep k4
    replace hT := hT.keep k4
    replace kk := kk.keep k4
    clear k4 hok hn
    obtain ⟨ob, hob⟩ : ∃ ob, okBest t = ob := ⟨_, rfl⟩
    obtain ⟨bv, hbv⟩ : ∃ bv, bestV t = bv := ⟨_, rfl⟩
    have HBV := Lib.hid hbv
    obtain ⟨c0, c1, c2, _⟩ := id b3
    go_wp2_with fail
    clear c0 c1 c2
    have q := implBestPlayer_any _ t w4 hT
    rw [hob, hbv] at q
    refine q.mono ?_
    rintro e w5 ⟨_, _, rfl, rfl, rfl, k5⟩
    clear q
    replace b3 := b3.keep k5
    replace hT := hT.keep k5
    replace kk := kk.keep k5
    try replace hA := hA.keep k5
    try replace hA' := hA'.keep k5
    try replace b12 := b12.keep k5
    try replace hU := hU.keep k5
    try replace b14 := b14.keep k5
    try replace b16 := b16.keep k5
    clear k5
    obtain ⟨c0, c1, c2, _⟩ := id b3
    go_wp2_with fail
    clear c0 c1 c2
    have q := specBestPlayer_any _ t w5 hT
    rw [hob, hbv] at q
    refine q.mono ?_
    rintro e w6 ⟨_, _, rfl, rfl, rfl, k6⟩
    clear q hob hbv
    replace b3 := b3.keep k6
    replace hT := hT.keep k6
    replace kk := kk.keep k6
    try replace hA := hA.keep k6
    try replace hA' := hA'.keep k6
    try replace b12 := b12.keep k6
    try replace hU := hU.keep k6
    try replace b14 := b14.keep k6
    try replace b16 := b16.keep k6
    clear k6
    go_wp2_with fail
    have q : Calls Tryz.prog 28 #[.slice a N cp, .int .i64 1] w6 fun e w' => ∃ v' n', e = .returned v' ∧ Code w' v' n' ∧ n' ≤ 70001 ∧ Chg No w6 w' := vCut_any _ N 1 w6 (HCO.out.keep kk) (by omega) (by omega)
    refine q.mono ?_
    rintro e w7 ⟨vc, nc, rfl, hvc, hnc, k7⟩
    clear q
    replace b3 := b3.keep k7
    replace hT := hT.keep k7
    replace kk := kk.keep k7
    try replace hA := hA.keep k7
    try replace hA' := hA'.keep k7
    try replace b12 := b12.keep k7
    try replace hU := hU.keep k7
    try replace b14 := b14.keep k7
    try replace b16 := b16.keep k7
    clear k7
    go_wp2_with fail
    refine (DrawRatio_any _ _ _ hvc hnc).mono ?_
    rintro e w8 ⟨vu, u, i, rfl, hU, k8⟩
    clear hvc
    replace b3 := b3.keep k8
    replace hT := hT.keep k8
    replace kk := kk.keep k8
    replace hA := hA.keep k8
    replace hA' := hA'.keep k8
    clear k8
    obtain ⟨pv, rv, hv0, hps, hrq⟩ := id hU
    obtain ⟨P1, P3, rfl, _⟩ := id hps
    obtain ⟨R1, R3, rfl, _⟩ := id hrq
    subst hv0
    clear hps hrq
    have b12 := Box3.new w8 (.int .i64 u.items) (.slice P1 u.ps.length P3) (.slice R1 u.reqs.length R3) 31
    have ka := (Chg.refl No w8).alloc (.cells #[.int .i64 u.items, .slice P1 u.ps.length P3, .slice R1 u.reqs.length R3] 31)
    replace b3 := b3.keep ka
    replace hT := hT.keep ka
    replace kk := kk.keep ka
    replace hA := hA.keep ka
    replace hA' := hA'.keep ka
    replace hU := hU.keep ka
    clear ka
    obtain ⟨c0, c1, c2, _⟩ := id b12
    go_wp2_with fail
    clear c0 c1 c2
    obtain ⟨B12, hB12⟩ : ∃ B12, w8.heap.size = B12 := ⟨_, rfl⟩
    rw [hB12] at b12 ⊢
    clear hB12
    generalize w8.alloc (.cells #[.int .i64 u.items, .slice P1 u.ps.length P3, .slice R1 u.reqs.length R3] 31) = W9 at b3 hT kk hA hA' b12 hU ⊢
    obtain ⟨rt, hrt⟩ : ∃ rt, ratV u i = rt := ⟨_, rfl⟩
    have q := implRatio_any _ u i W9 hU
    rw [hrt] at q
    refine q.mono ?_
    rintro e w10 ⟨_, _, rfl, rfl, rfl, k10⟩
    clear q
    replace b3 := b3.keep k10
    replace hT := hT.keep k10
    replace kk := kk.keep k10
    try replace hA := hA.keep k10
    try replace hA' := hA'.keep k10
    try replace b12 := b12.keep k10
    try replace hU := hU.keep k10
    try replace b14 := b14.keep k10
    try replace b16 := b16.keep k10
    clear k10
    have b14 := BxP.new w10 (.int .i64 rt.num) (.int .i64 rt.den) 61
    have ka := (Chg.refl No w10).alloc (.cells #[.int .i64 rt.num, .int .i64 rt.den] 61)
    replace b3 := b3.keep ka
    replace hT := hT.keep ka
    replace kk := kk.keep ka
    replace hA := hA.keep ka
    replace hA' := hA'.keep ka
    replace hU := hU.keep ka
    replace b12 := b12.keep ka
    clear ka
    obtain ⟨c0, c1, c2, _⟩ := id b12
    go_wp2_with fail
    clear c0 c1 c2
    obtain ⟨B14, hB14⟩ : ∃ B14, w10.heap.size = B14 := ⟨_, rfl⟩
    rw [hB14] at b14 ⊢
    clear hB14
    generalize w10.alloc (.cells #[.int .i64 rt.num, .int .i64 rt.den] 61) = W11 at b3 hT kk hA hA' b12 hU b14 ⊢
    have q := specRatio_any _ u i W11 hU
    rw [hrt] at q
    refine q.mono ?_
    rintro e w12 ⟨_, _, rfl, rfl, rfl, k12⟩
    clear q hrt
    replace b3 := b3.keep k12
    replace hT := hT.keep k12
    replace kk := kk.keep k12
    try replace hA := hA.keep k12
    try replace hA' := hA'.keep k12
    try replace b12 := b12.keep k12
    try replace hU := hU.keep k12
    try replace b14 := b14.keep k12
    try replace b16 := b16.keep k12
    clear k12
    have b16 := BxP.new w12 (.int .i64 rt.num) (.int .i64 rt.den) 61
    have ka := (Chg.refl No w12).alloc (.cells #[.int .i64 rt.num, .int .i64 rt.den] 61)
    replace b3 := b3.keep ka
    replace hT := hT.keep ka
    replace kk := kk.keep ka
    replace hA := hA.keep ka
    replace hA' := hA'.keep ka
    replace hU := hU.keep ka
    replace b12 := b12.keep ka
    replace b14 := b14.keep ka
    clear ka
    obtain ⟨c0, c1, c2, _⟩ := id b12
    go_wp2_with fail
    clear c0 c1 c2
    obtain ⟨B16, hB16⟩ : ∃ B16, w12.heap.size = B16 := ⟨_, rfl⟩
    rw [hB16] at b16 ⊢
    clear hB16
    generalize w12.alloc (.cells #[.int .i64 rt.num, .int .i64 rt.den] 61) = W13 at b3 hT kk hA hA' b12 hU b14 b16 ⊢
    obtain ⟨oc, hoc⟩ : ∃ oc, okCruel u i = oc := ⟨_, rfl⟩
    obtain ⟨cv, hcv⟩ : ∃ cv, cruelV u i = cv := ⟨_, rfl⟩
    have HCR := Lib.hid (And.intro hoc hcv)
    have q := implCruelItem_any _ u i W13 hU
    rw [hoc, hcv] at q
    refine q.mono ?_
    rintro e w14 ⟨_, _, rfl, rfl, rfl, k14⟩
    clear q
    replace b3 := b3.keep k14
    replace hT := hT.keep k14
    replace kk := kk.keep k14
    try replace hA := hA.keep k14
    try replace hA' := hA'.keep k14
    try replace b12 := b12.keep k14
    try replace hU := hU.keep k14
    try replace b14 := b14.keep k14
    try replace b16 := b16.keep k14
    clear k14
    obtain ⟨c0, c1, c2, _⟩ := id b12
    go_wp2_with fail
    clear c0 c1 c2
    have q := specCruelItem_any _ u i w14 hU
    rw [hoc, hcv] at q
    refine q.mono ?_
    rintro e w15 ⟨_, _, rfl, rfl, rfl, k15⟩
    clear q hoc hcv
    replace b3 := b3.keep k15
    replace hT := hT.keep k15
    replace kk := kk.keep k15
    try replace hA := hA.keep k15
    try replace hA' := hA'.keep k15
    try replace b12 := b12.keep k15
    try replace hU := hU.keep k15
    try replace b14 := b14.keep k15
    try replace b16 := b16.keep k15
    clear k15
    go_wp2_with fail
    refine (vPairs_same _ _ n (accL t n) w15 hA hA' hn4).mono ?_
    rintro e w16 ⟨_, rfl, rfl, k16⟩
    replace b3 := b3.keep k16
    replace hT := hT.keep k16
    replace kk := kk.keep k16
    try replace hA := hA.keep k16
    try replace hA' := hA'.keep k16
    try replace b12 := b12.keep k16
    try replace hU := hU.keep k16
    try replace b14 := b14.keep k16
    try replace b16 := b16.keep k16
    clear k16 hA'
    have HFR := eqFr_run rt.num rt.den
    obtain ⟨c0, c1⟩ := id b14
    obtain ⟨d0, d1⟩ := id b16
    go_wp2_with fail
    clear c0 c1 d0 d1 HFR b14 b16
    go_loopw [22] (fun i wr => ∃ j : Nat, j ≤ n ∧ i = .int .i64 j ∧ Box3 wr B3 (.int .i64 t.items) (.slice p1 t.ps.length p3) (.slice r1 t.reqs.length r3) ∧ RT No wr (.agg #[.int .i64 t.items, .slice p1 t.ps.length p3, .slice r1 t.reqs.length r3]) t ∧ RF No wr (.slice xa n xc) 2 n ((accL t n).map (Value.int .i64)) ∧
      Box3 wr B12 (.int .i64 u.items) (.slice P1 u.ps.length P3) (.slice R1 u.reqs.length R3) ∧ RT No wr (.agg #[.int .i64 u.items, .slice P1 u.ps.length P3, .slice R1 u.reqs.length R3]) u ∧ Chg No w0 wr) (fun i _ => n - (intOf i).toNat)
    case atStart => exact ⟨0, Nat.zero_le _, rfl, b3, hT, hA, b12, hU, kk⟩
    case round =>
      clear b3 hT hA b12 hU kk
      obtain ⟨j, hj, rfl, b3, hT, hA, b12, hU, kk⟩ := hrel
      have hj0 : (0 : Int) ≤ (j : Int) := Int.natCast_nonneg _
      by_cases hlt : j < n
      · have hokt : ok = true := by
          cases hh : ok
          · have h1 := HN.out
            unfold accN at h1
            rw [HOK.out, hh] at h1
            simp at h1
            omega
          · rfl
        subst hokt
        have hv := HOK.out
        have hnp : n = t.ps.length := by rw [← HN.out]; unfold accN; rw [if_pos hv]
        have hjp : j < t.ps.length := by omega
        have hl4 := (tour_len hv).1
        have hl60 := (tour_len hv).2.1
        obtain ⟨⟨hf0, hf1⟩, hpol, hpag, hfa⟩ := tour_facts hv hjp
        have hfew := few_places hpag hpol
        have hask := (asked_pag (n := t.items) (k := (t.ps.getD j dPl).ca.size) (l := partL t j) hpol).trans hpag
        have hbest : faF t.ps (bestTo (faF t.ps) t.ps.length) ≤ faF t.ps j := bestTo_least (faF t.ps) j hjp
        have hbl := bestTo_lt (faF t.ps) (j := t.ps.length) (by omega)
        have hbvE : bv = ((bestTo (faF t.ps) t.ps.length : Nat) : Int) := by
          rw [← HBV.out]; unfold bestV
          have : okBest t = true := by unfold okBest; rw [hv]; simp; omega
          rw [if_pos this]
        obtain ⟨BB, hBB⟩ : ∃ BB : Nat, bestTo (faF t.ps) t.ps.length = BB := ⟨_, rfl⟩
        rw [hBB] at hbest hbl hbvE
        subst hbvE
        obtain ⟨g1, g2⟩ := accL_get t n j hlt
        obtain ⟨g3, _⟩ := accL_get t n BB (by omega)
        have hla := accL_len t n
        unfold faF at hbest
        obtain ⟨pv, rv, he, hps, hrq⟩ := id hT
        simp only [Value.agg.injEq, Array.mk.injEq, List.cons.injEq, and_true, true_and] at he
        obtain ⟨rfl, rfl⟩ := he
        obtain ⟨_, _, he, _, _, _, pf, mf, hl, hcl⟩ := id hps
        simp only [Value.slice.injEq] at he
        obtain ⟨rfl, _, rfl⟩ := he
        obtain ⟨b, off, rfl, _, hb, hcell⟩ := hcl (by intro e; simp [e] at hjp)
        have h7 := hcell j hjp
        obtain ⟨hpj, hmj⟩ := hl j hjp
        obtain ⟨xs, hx, hrx⟩ := hrq.from (t.ps.getD j dPl).frm.toNat (t.ps.getD j dPl).frm (by omega) (by omega)
        obtain ⟨ab, aoff, rfl, _, hab, hac⟩ := (show ∃ ab aoff, xa = some ⟨ab, aoff, none⟩ ∧ ¬ No ab ∧ ab < wr.heap.size ∧ ∀ i, i < ((accL t n).map (Value.int .i64)).length → wr.cell? ⟨ab, aoff + i, none⟩ = some (((accL t n).map (Value.int .i64)).getD i undef) by
          obtain ⟨_, _, he, _, _, _, _, hcc⟩ := id hA
          simp only [Value.slice.injEq, true_and] at he
          obtain ⟨rfl, rfl⟩ := he
          exact hcc (by omega))
        have hget : ∀ k, k < (accL t n).length → ((accL t n).map (Value.int .i64)).getD k undef = .int .i64 ((accL t n).getD k 0) := fun k hk => by
          simp only [List.getD_eq_getElem?_getD, List.getElem?_map, List.getElem?_eq_getElem hk]; rfl
        have A0 := hac (j * 2) (by rw [List.length_map]; omega)
        have A1 := hac (j * 2 + 1) (by rw [List.length_map]; omega)
        have A2 := hac (BB * 2) (by rw [List.length_map]; omega)
        rw [← Nat.add_assoc] at A1
        rw [hget _ (by omega), g1] at A0
        rw [hget _ (by omega), g2] at A1
        rw [hget _ (by omega), g3] at A2
        unfold fewT at A1
        unfold partL at A1 hfa hfew hask hpag
        have hfv : fewV (t.ps.getD j dPl).ca.size t.items (t.reqs.drop (t.ps.getD j dPl).frm.toNat) = fewN (t.ps.getD j dPl).ca.size t.items (t.reqs.drop (t.ps.getD j dPl).frm.toNat) := by unfold fewV; rw [if_pos hpag]
        obtain ⟨y, hy⟩ : ∃ y, t.ps.getD j dPl = y := ⟨_, rfl⟩
        rw [hy] at h7 hpj hmj hx hrx A0 A1 hfa hfew hask hpag hfv hf0 hf1 hbest
        obtain ⟨l, hll⟩ : ∃ l, t.reqs.drop y.frm.toNat = l := ⟨_, rfl⟩
        rw [hll] at hrx A1 hfa hfew hask hpag hfv
        obtain ⟨np, hnpl⟩ : ∃ np, (places (newC y.ca.pol y.ca.size) l).length = np := ⟨_, rfl⟩
        rw [hnpl] at hfa hfew
        rw [hfa] at A0 hbest
        obtain ⟨F, hF⟩ : ∃ F, fewN y.ca.size t.items l = F := ⟨_, rfl⟩
        rw [hF] at A1 hfew hfv
        obtain ⟨fb, hfb⟩ : ∃ fb, (t.ps.getD BB dPl).fa = fb := ⟨_, rfl⟩
        rw [hfb] at A2 hbest
        obtain ⟨xa, xn, xq, rfl⟩ := hrx.shape
        have HPL := Lib.hid hnpl
        have HAS := Lib.hid hask
        have HFV := Lib.hid hfv
        have HPG := Lib.hid hpag
        generalize pf j = pj at hpj h7
        generalize mf j = mj at hmj h7
        obtain ⟨ya, yn, yc, rfl⟩ := hpj.shape
        obtain ⟨za, zn, zc, rfl⟩ := hmj.shape
        clear hps hrq hl hcl hcell hpj hmj hac hget g1 g2 g3 hy hll hnpl hF hfb hfa hask hfv hpag hBB
        have hjn : (j : Int) < (n : Int) := by omega
        have hjq : (j : Int) < (t.ps.length : Int) := by omega
        have hbq : (BB : Int) < (n : Int) := by omega
        have hbq0 : (0 : Int) ≤ (BB : Int) := Int.natCast_nonneg _
        have hlt1 : ¬ (np : Int) < F := by omega
        have hlt2 : ¬ (np : Int) < fb := by omega
        have hwj : IntKind.i64.wrap ((j : Int) + 1) = (j : Int) + 1 := IntWalk.i64_in _ (by omega)
        clear hnp
        have b23 := Box.new wr (.int .i64 y.ca.pol) (.int .i64 y.ca.size) (.slice ya yn yc) (.slice za zn zc) (.int .i64 y.ca.hand) 67
        have ka := (Chg.refl No wr).alloc (.cells #[.int .i64 y.ca.pol, .int .i64 y.ca.size, .slice ya yn yc, .slice za zn zc, .int .i64 y.ca.hand] 67)
        obtain ⟨c0, c1, c2, _⟩ := id b3
        obtain ⟨d0, d1, d2, d3, d4, d5, d6⟩ := id h7
        replace b3 := b3.keep ka
        replace hT := hT.keep ka
        replace hA := hA.keep ka
        replace b12 := b12.keep ka
        replace hU := hU.keep ka
        replace kk := kk.keep ka
        replace hrx := hrx.keep ka
        replace h7 := h7.step ka hb (fun e => e)
        replace A0 := (ka.cellD ab _ hab (fun e => e)).trans A0
        replace A1 := (ka.cellD ab _ hab (fun e => e)).trans A1
        replace A2 := (ka.cellD ab _ hab (fun e => e)).trans A2
        replace hb := Nat.lt_of_lt_of_le hb ka.size
        replace hab := Nat.lt_of_lt_of_le hab ka.size
        clear ka
        go_wp2_with fail
        clear c0 c1 c2 d0 d1 d2 d3 d4 d5 d6
        obtain ⟨B23, hB23⟩ : ∃ B23, wr.heap.size = B23 := ⟨_, rfl⟩
        rw [hB23] at b23 ⊢
        clear hB23
        generalize wr.alloc (.cells #[.int .i64 y.ca.pol, .int .i64 y.ca.size, .slice ya yn yc, .slice za zn zc, .int .i64 y.ca.hand] 67) = W18 at b3 hT hA b12 hU kk hrx h7 A0 A1 A2 hb hab b23 ⊢
        refine wp_region_K (S := fun W => W.cell? ⟨B3, 0, none⟩ = some (.int .i64 t.items) ∧ W.cell? ⟨B3, 1, none⟩ = some (.slice (some ⟨b, off, none⟩) t.ps.length p3) ∧ W.cell? ⟨B3, 2, none⟩ = some (.slice r1 t.reqs.length r3) ∧ W.cell? ⟨B23, 0, none⟩ = some (.int .i64 y.ca.pol) ∧ W.cell? ⟨B23, 1, none⟩ = some (.int .i64 y.ca.size) ∧ W.cell? ⟨b, off + j * 7, none⟩ = some (.int .i64 y.frm)) (k := 19) (by kernel_rfl) ?_
        have kd := (Chg.refl No W18).drew
        replace A0 := (kd.cellD ab _ hab (fun e => e)).trans A0
        replace A1 := (kd.cellD ab _ hab (fun e => e)).trans A1
        replace A2 := (kd.cellD ab _ hab (fun e => e)).trans A2
        replace hab := Nat.lt_of_lt_of_le hab kd.size
        replace b3 := b3.keep kd
        replace hT := hT.keep kd
        replace hA := hA.keep kd
        replace b12 := b12.keep kd
        replace hU := hU.keep kd
        replace kk := kk.keep kd
        replace b23 := b23.keep kd
        replace h7 := h7.step kd hb (fun e => e)
        replace hb := Nat.lt_of_lt_of_le hb (Chg.size kd)
        replace hrx := hrx.keep kd
        clear kd
        generalize W18.drew = WQ at b3 hT hA b12 hU kk hrx h7 A0 A1 A2 hb hab b23 ⊢
        have hS : WQ.cell? ⟨B3, 0, none⟩ = some (.int .i64 t.items) ∧ WQ.cell? ⟨B3, 1, none⟩ = some (.slice (some ⟨b, off, none⟩) t.ps.length p3) ∧ WQ.cell? ⟨B3, 2, none⟩ = some (.slice r1 t.reqs.length r3) ∧ WQ.cell? ⟨B23, 0, none⟩ = some (.int .i64 y.ca.pol) ∧ WQ.cell? ⟨B23, 1, none⟩ = some (.int .i64 y.ca.size) ∧ WQ.cell? ⟨b, off + j * 7, none⟩ = some (.int .i64 y.frm) := ⟨b3.c0, b3.c1, b3.c2, b23.c0, b23.c1, h7.c0⟩
        refine wpAnyK_take0 0 (.pointer (some ⟨B3, 0, none⟩)) rfl (by kernel_rfl) (fun _ _ _ h => h) hS rfl (by intro w; go_simp) ?_
        simp only [List.getElem_toArray, List.getElem_cons_zero, Act.put, List.setIfInBounds_toArray, List.set_cons_zero, List.set_cons_succ]
        refine wpAnyK_takeT 1 (.int .i64 t.items) rfl (by kernel_rfl) (fun _ _ _ h => h) hS rfl (by intro w hSw; go_simp) ?_
        simp only [List.getElem_toArray, List.getElem_cons_succ, List.getElem_cons_zero, Act.put, List.setIfInBounds_toArray, List.set_cons_zero, List.set_cons_succ]
        refine wpAnyK_take0 2 (.pointer (some ⟨B23, 0, none⟩)) rfl (by kernel_rfl) (fun _ _ _ h => h) hS rfl (by intro w; go_simp) ?_
        simp only [List.getElem_toArray, List.getElem_cons_succ, List.getElem_cons_zero, Act.put, List.setIfInBounds_toArray, List.set_cons_zero, List.set_cons_succ]
        refine wpAnyK_takeT 3 (.int .i64 y.ca.pol) rfl (by kernel_rfl) (fun _ _ _ h => h) hS rfl (by intro w hSw; go_simp) ?_
        simp only [List.getElem_toArray, List.getElem_cons_succ, List.getElem_cons_zero, Act.put, List.setIfInBounds_toArray, List.set_cons_zero, List.set_cons_succ]
        refine wpAnyK_take0 4 (.pointer (some ⟨B23, 1, none⟩)) rfl (by kernel_rfl) (fun _ _ _ h => h) hS rfl (by intro w; go_simp) ?_
        simp only [List.getElem_toArray, List.getElem_cons_succ, List.getElem_cons_zero, Act.put, List.setIfInBounds_toArray, List.set_cons_zero, List.set_cons_succ]
        refine wpAnyK_takeT 5 (.int .i64 y.ca.size) rfl (by kernel_rfl) (fun _ _ _ h => h) hS rfl (by intro w hSw; go_simp) ?_
        simp only [List.getElem_toArray, List.getElem_cons_succ, List.getElem_cons_zero, Act.put, List.setIfInBounds_toArray, List.set_cons_zero, List.set_cons_succ]
        refine wpAnyK_take0 6 (.pointer (some ⟨B3, 2, none⟩)) rfl (by kernel_rfl) (fun _ _ _ h => h) hS rfl (by intro w; go_simp) ?_
        simp only [List.getElem_toArray, List.getElem_cons_succ, List.getElem_cons_zero, Act.put, List.setIfInBounds_toArray, List.set_cons_zero, List.set_cons_succ]
        refine wpAnyK_takeT 7 (.slice r1 t.reqs.length r3) rfl (by kernel_rfl) (fun _ _ _ h => h) hS rfl (by intro w hSw; go_simp) ?_
        simp only [List.getElem_toArray, List.getElem_cons_succ, List.getElem_cons_zero, Act.put, List.setIfInBounds_toArray, List.set_cons_zero, List.set_cons_succ]
        refine wpAnyK_take0 8 (.pointer (some ⟨B3, 1, none⟩)) rfl (by kernel_rfl) (fun _ _ _ h => h) hS rfl (by intro w; go_simp) ?_
        simp only [List.getElem_toArray, List.getElem_cons_succ, List.getElem_cons_zero, Act.put, List.setIfInBounds_toArray, List.set_cons_zero, List.set_cons_succ]
        refine wpAnyK_takeT 9 (.slice (some ⟨b, off, none⟩) t.ps.length p3) rfl (by kernel_rfl) (fun _ _ _ h => h) hS rfl (by intro w hSw; go_simp) ?_
        simp only [List.getElem_toArray, List.getElem_cons_succ, List.getElem_cons_zero, Act.put, List.setIfInBounds_toArray, List.set_cons_zero, List.set_cons_succ]
        refine wpAnyK_take0 10 (.int .i64 (j : Int)) rfl (by kernel_rfl) (fun _ _ _ h => h) hS rfl (by intro w; go_simp) ?_
        simp only [List.getElem_toArray, List.getElem_cons_succ, List.getElem_cons_zero, Act.put, List.setIfInBounds_toArray, List.set_cons_zero, List.set_cons_succ]
        refine wpAnyK_take 11 (.pointer (some ⟨b, off + j * 7, none⟩)) rfl (by kernel_rfl) (fun _ _ _ h => h) hS rfl (by rintro w _; go_simp) ?_
        simp only [List.getElem_toArray, List.getElem_cons_succ, List.getElem_cons_zero, Act.put, List.setIfInBounds_toArray, List.set_cons_zero, List.set_cons_succ]
        refine wpAnyK_take0 12 (.pointer (some ⟨b, off + j * 7, none⟩)) rfl (by kernel_rfl) (fun _ _ _ h => h) hS rfl (by intro w; go_simp) ?_
        simp only [List.getElem_toArray, List.getElem_cons_succ, List.getElem_cons_zero, Act.put, List.setIfInBounds_toArray, List.set_cons_zero, List.set_cons_succ]
        refine wpAnyK_takeT 13 (.int .i64 y.frm) rfl (by kernel_rfl) (fun _ _ _ h => h) hS rfl (by intro w hSw; go_simp) ?_
        simp only [List.getElem_toArray, List.getElem_cons_succ, List.getElem_cons_zero, Act.put, List.setIfInBounds_toArray, List.set_cons_zero, List.set_cons_succ]
        refine wpAnyK_take 14 (.slice xa xn xq) rfl (by kernel_rfl) (fun _ _ _ h => h) hS rfl (by rintro w _; go_simp) ?_
        simp only [List.getElem_toArray, List.getElem_cons_succ, List.getElem_cons_zero, Act.put, List.setIfInBounds_toArray, List.set_cons_zero, List.set_cons_succ]
        refine wpAnyK_1 15 (by kernel_rfl) (wpOpK' rfl rfl ?_)
        intro K0 hK0
        have hfp := ret2_ret (implFaultPlaces_any No t.items y.ca.pol y.ca.size _ l WQ hrx)
        rw [HAS.out, if_pos rfl] at hfp
        refine ocall (f := 34) (args := #[.int .i64 t.items, .int .i64 y.ca.pol, .int .i64 y.ca.size, .slice xa xn xq]) (by go_simp) hfp (fun v4 W4 h4 => hK0.out _ _ (by obtain ⟨_, _, _, _, _, kx⟩ := h4; exact ⟨(b3.keep kx).c0, (b3.keep kx).c1, (b3.keep kx).c2, (b23.keep kx).c0, (b23.keep kx).c1, (h7.step kx hb (fun e => e)).c0⟩) ?_)
        obtain ⟨vp, _, rfl, rfl, hOP, kx⟩ := h4
        clear hfp hK0 K0 hS
        simp only [List.getElem_toArray, List.getElem_cons_succ, List.getElem_cons_zero, Act.put, List.setIfInBounds_toArray, List.set_cons_zero, List.set_cons_succ]
        obtain ⟨o1, o3, rfl, _⟩ := hOP.view
        rw [HPL.out]
        replace A0 := (kx.cellD ab _ hab (fun e => e)).trans A0
        replace A1 := (kx.cellD ab _ hab (fun e => e)).trans A1
        replace A2 := (kx.cellD ab _ hab (fun e => e)).trans A2
        replace hab := Nat.lt_of_lt_of_le hab kx.size
        replace b3 := b3.keep kx
        replace hT := hT.keep kx
        replace hA := hA.keep kx
        replace b12 := b12.keep kx
        replace hU := hU.keep kx
        replace kk := kk.keep kx
        replace b23 := b23.keep kx
        replace h7 := h7.step kx hb (fun e => e)
        replace hb := Nat.lt_of_lt_of_le hb (Chg.size kx)
        replace hrx := hrx.keep kx
        clear kx hOP
        generalize W4 = WQ at *
        have hS : WQ.cell? ⟨B3, 0, none⟩ = some (.int .i64 t.items) ∧ WQ.cell? ⟨B3, 1, none⟩ = some (.slice (some ⟨b, off, none⟩) t.ps.length p3) ∧ WQ.cell? ⟨B3, 2, none⟩ = some (.slice r1 t.reqs.length r3) ∧ WQ.cell? ⟨B23, 0, none⟩ = some (.int .i64 y.ca.pol) ∧ WQ.cell? ⟨B23, 1, none⟩ = some (.int .i64 y.ca.size) ∧ WQ.cell? ⟨b, off + j * 7, none⟩ = some (.int .i64 y.frm) := ⟨b3.c0, b3.c1, b3.c2, b23.c0, b23.c1, h7.c0⟩
        refine wpAnyK_take0 16 (.tuple #[.slice o1 np o3, .bool true]) rfl (by kernel_rfl) (fun _ _ _ h => h) hS rfl (by intro w; go_simp) ?_
        simp only [List.getElem_toArray, List.getElem_cons_succ, List.getElem_cons_zero, Act.put, List.setIfInBounds_toArray, List.set_cons_zero, List.set_cons_succ]
        refine wpAnyK_take0 17 (.slice o1 np o3) rfl (by kernel_rfl) (fun _ _ _ h => h) hS rfl (by intro w; go_simp) ?_
        simp only [List.getElem_toArray, List.getElem_cons_succ, List.getElem_cons_zero, Act.put, List.setIfInBounds_toArray, List.set_cons_zero, List.set_cons_succ]
        refine wpAnyK_take0 18 (.bool true) rfl (by kernel_rfl) (fun _ _ _ h => h) hS rfl (by intro w; go_simp) ?_
        simp only [List.getElem_toArray, List.getElem_cons_succ, List.getElem_cons_zero, Act.put, List.setIfInBounds_toArray, List.set_cons_zero, List.set_cons_succ]
        clear hS
        refine wpAnyK_tail 19 rfl (by kernel_rfl) ?_
        simp only [List.drop_succ_cons, List.drop_zero]
        go_wp2_with fail
        refine wp_region_K (S := fun W => W.cell? ⟨B3, 0, none⟩ = some (.int .i64 t.items) ∧ W.cell? ⟨B3, 1, none⟩ = some (.slice (some ⟨b, off, none⟩) t.ps.length p3) ∧ W.cell? ⟨B3, 2, none⟩ = some (.slice r1 t.reqs.length r3) ∧ W.cell? ⟨B23, 0, none⟩ = some (.int .i64 y.ca.pol) ∧ W.cell? ⟨B23, 1, none⟩ = some (.int .i64 y.ca.size) ∧ W.cell? ⟨b, off + j * 7, none⟩ = some (.int .i64 y.frm)) (k := 17) (by kernel_rfl) ?_
        have kd := (Chg.refl No WQ).drew
        replace A0 := (kd.cellD ab _ hab (fun e => e)).trans A0
        replace A1 := (kd.cellD ab _ hab (fun e => e)).trans A1
        replace A2 := (kd.cellD ab _ hab (fun e => e)).trans A2
        replace hab := Nat.lt_of_lt_of_le hab kd.size
        replace b3 := b3.keep kd
        replace hT := hT.keep kd
        replace hA := hA.keep kd
        replace b12 := b12.keep kd
        replace hU := hU.keep kd
        replace kk := kk.keep kd
        replace b23 := b23.keep kd
        replace h7 := h7.step kd hb (fun e => e)
        replace hb := Nat.lt_of_lt_of_le hb (Chg.size kd)
        replace hrx := hrx.keep kd
        clear kd
        generalize WQ.drew = WQ at b3 hT hA b12 hU kk hrx h7 A0 A1 A2 hb hab b23 ⊢
        have hS : WQ.cell? ⟨B3, 0, none⟩ = some (.int .i64 t.items) ∧ WQ.cell? ⟨B3, 1, none⟩ = some (.slice (some ⟨b, off, none⟩) t.ps.length p3) ∧ WQ.cell? ⟨B3, 2, none⟩ = some (.slice r1 t.reqs.length r3) ∧ WQ.cell? ⟨B23, 0, none⟩ = some (.int .i64 y.ca.pol) ∧ WQ.cell? ⟨B23, 1, none⟩ = some (.int .i64 y.ca.size) ∧ WQ.cell? ⟨b, off + j * 7, none⟩ = some (.int .i64 y.frm) := ⟨b3.c0, b3.c1, b3.c2, b23.c0, b23.c1, h7.c0⟩
        refine wpAnyK_take0 0 (.pointer (some ⟨B23, 1, none⟩)) rfl (by kernel_rfl) (fun _ _ _ h => h) hS rfl (by intro w; go_simp) ?_
        simp only [List.getElem_toArray, List.getElem_cons_zero, Act.put, List.setIfInBounds_toArray, List.set_cons_zero, List.set_cons_succ]
        refine wpAnyK_takeT 1 (.int .i64 y.ca.size) rfl (by kernel_rfl) (fun _ _ _ h => h) hS rfl (by intro w hSw; go_simp) ?_
        simp only [List.getElem_toArray, List.getElem_cons_succ, List.getElem_cons_zero, Act.put, List.setIfInBounds_toArray, List.set_cons_zero, List.set_cons_succ]
        refine wpAnyK_take0 2 (.pointer (some ⟨B3, 0, none⟩)) rfl (by kernel_rfl) (fun _ _ _ h => h) hS rfl (by intro w; go_simp) ?_
        simp only [List.getElem_toArray, List.getElem_cons_succ, List.getElem_cons_zero, Act.put, List.setIfInBounds_toArray, List.set_cons_zero, List.set_cons_succ]
        refine wpAnyK_takeT 3 (.int .i64 t.items) rfl (by kernel_rfl) (fun _ _ _ h => h) hS rfl (by intro w hSw; go_simp) ?_
        simp only [List.getElem_toArray, List.getElem_cons_succ, List.getElem_cons_zero, Act.put, List.setIfInBounds_toArray, List.set_cons_zero, List.set_cons_succ]
        refine wpAnyK_take0 4 (.pointer (some ⟨B3, 2, none⟩)) rfl (by kernel_rfl) (fun _ _ _ h => h) hS rfl (by intro w; go_simp) ?_
        simp only [List.getElem_toArray, List.getElem_cons_succ, List.getElem_cons_zero, Act.put, List.setIfInBounds_toArray, List.set_cons_zero, List.set_cons_succ]
        refine wpAnyK_takeT 5 (.slice r1 t.reqs.length r3) rfl (by kernel_rfl) (fun _ _ _ h => h) hS rfl (by intro w hSw; go_simp) ?_
        simp only [List.getElem_toArray, List.getElem_cons_succ, List.getElem_cons_zero, Act.put, List.setIfInBounds_toArray, List.set_cons_zero, List.set_cons_succ]
        refine wpAnyK_take0 6 (.pointer (some ⟨B3, 1, none⟩)) rfl (by kernel_rfl) (fun _ _ _ h => h) hS rfl (by intro w; go_simp) ?_
        simp only [List.getElem_toArray, List.getElem_cons_succ, List.getElem_cons_zero, Act.put, List.setIfInBounds_toArray, List.set_cons_zero, List.set_cons_succ]
        refine wpAnyK_takeT 7 (.slice (some ⟨b, off, none⟩) t.ps.length p3) rfl (by kernel_rfl) (fun _ _ _ h => h) hS rfl (by intro w hSw; go_simp) ?_
        simp only [List.getElem_toArray, List.getElem_cons_succ, List.getElem_cons_zero, Act.put, List.setIfInBounds_toArray, List.set_cons_zero, List.set_cons_succ]
        refine wpAnyK_take0 8 (.int .i64 (j : Int)) rfl (by kernel_rfl) (fun _ _ _ h => h) hS rfl (by intro w; go_simp) ?_
        simp only [List.getElem_toArray, List.getElem_cons_succ, List.getElem_cons_zero, Act.put, List.setIfInBounds_toArray, List.set_cons_zero, List.set_cons_succ]
        refine wpAnyK_take 9 (.pointer (some ⟨b, off + j * 7, none⟩)) rfl (by kernel_rfl) (fun _ _ _ h => h) hS rfl (by rintro w _; go_simp) ?_
        simp only [List.getElem_toArray, List.getElem_cons_succ, List.getElem_cons_zero, Act.put, List.setIfInBounds_toArray, List.set_cons_zero, List.set_cons_succ]
        refine wpAnyK_take0 10 (.pointer (some ⟨b, off + j * 7, none⟩)) rfl (by kernel_rfl) (fun _ _ _ h => h) hS rfl (by intro w; go_simp) ?_
        simp only [List.getElem_toArray, List.getElem_cons_succ, List.getElem_cons_zero, Act.put, List.setIfInBounds_toArray, List.set_cons_zero, List.set_cons_succ]
        refine wpAnyK_takeT 11 (.int .i64 y.frm) rfl (by kernel_rfl) (fun _ _ _ h => h) hS rfl (by intro w hSw; go_simp) ?_
        simp only [List.getElem_toArray, List.getElem_cons_succ, List.getElem_cons_zero, Act.put, List.setIfInBounds_toArray, List.set_cons_zero, List.set_cons_succ]
        refine wpAnyK_take 12 (.slice xa xn xq) rfl (by kernel_rfl) (fun _ _ _ h => h) hS rfl (by rintro w _; go_simp) ?_
        simp only [List.getElem_toArray, List.getElem_cons_succ, List.getElem_cons_zero, Act.put, List.setIfInBounds_toArray, List.set_cons_zero, List.set_cons_succ]
        refine wpAnyK_1 13 (by kernel_rfl) (wpOpK' rfl rfl ?_)
        intro K0 hK0
        have hfp := ret2_ret (implFewest_any y.ca.size t.items _ l WQ hrx)
        rw [HFV.out, HPG.out] at hfp
        refine ocall (f := 35) (args := #[.int .i64 y.ca.size, .int .i64 t.items, .slice xa xn xq]) (by go_simp) hfp (fun v4 W4 h4 => hK0.out _ _ (by obtain ⟨_, _, _, _, _, kx⟩ := h4; exact ⟨(b3.keep kx).c0, (b3.keep kx).c1, (b3.keep kx).c2, (b23.keep kx).c0, (b23.keep kx).c1, (h7.step kx hb (fun e => e)).c0⟩) ?_)
        obtain ⟨_, _, rfl, rfl, rfl, kx⟩ := h4
        clear hfp hK0 K0 hS
        simp only [List.getElem_toArray, List.getElem_cons_succ, List.getElem_cons_zero, Act.put, List.setIfInBounds_toArray, List.set_cons_zero, List.set_cons_succ]
        replace A0 := (kx.cellD ab _ hab (fun e => e)).trans A0
        replace A1 := (kx.cellD ab _ hab (fun e => e)).trans A1
        replace A2 := (kx.cellD ab _ hab (fun e => e)).trans A2
        replace hab := Nat.lt_of_lt_of_le hab kx.size
        replace b3 := b3.keep kx
        replace hT := hT.keep kx
        replace hA := hA.keep kx
        replace b12 := b12.keep kx
        replace hU := hU.keep kx
        replace kk := kk.keep kx
        replace b23 := b23.keep kx
        replace h7 := h7.step kx hb (fun e => e)
        replace hb := Nat.lt_of_lt_of_le hb (Chg.size kx)
        replace hrx := hrx.keep kx
        clear kx
        generalize W4 = WQ at *
        have hS : WQ.cell? ⟨B3, 0, none⟩ = some (.int .i64 t.items) ∧ WQ.cell? ⟨B3, 1, none⟩ = some (.slice (some ⟨b, off, none⟩) t.ps.length p3) ∧ WQ.cell? ⟨B3, 2, none⟩ = some (.slice r1 t.reqs.length r3) ∧ WQ.cell? ⟨B23, 0, none⟩ = some (.int .i64 y.ca.pol) ∧ WQ.cell? ⟨B23, 1, none⟩ = some (.int .i64 y.ca.size) ∧ WQ.cell? ⟨b, off + j * 7, none⟩ = some (.int .i64 y.frm) := ⟨b3.c0, b3.c1, b3.c2, b23.c0, b23.c1, h7.c0⟩
        refine wpAnyK_take0 14 (.tuple #[.int .i64 F, .bool true]) rfl (by kernel_rfl) (fun _ _ _ h => h) hS rfl (by intro w; go_simp) ?_
        simp only [List.getElem_toArray, List.getElem_cons_succ, List.getElem_cons_zero, Act.put, List.setIfInBounds_toArray, List.set_cons_zero, List.set_cons_succ]
        refine wpAnyK_take0 15 (.int .i64 F) rfl (by kernel_rfl) (fun _ _ _ h => h) hS rfl (by intro w; go_simp) ?_
        simp only [List.getElem_toArray, List.getElem_cons_succ, List.getElem_cons_zero, Act.put, List.setIfInBounds_toArray, List.set_cons_zero, List.set_cons_succ]
        refine wpAnyK_take0 16 (.bool true) rfl (by kernel_rfl) (fun _ _ _ h => h) hS rfl (by intro w; go_simp) ?_
        simp only [List.getElem_toArray, List.getElem_cons_succ, List.getElem_cons_zero, Act.put, List.setIfInBounds_toArray, List.set_cons_zero, List.set_cons_succ]
        clear hS
        refine wpAnyK_tail 17 rfl (by kernel_rfl) ?_
        simp only [List.drop_succ_cons, List.drop_zero]
        go_wp2_with fail
        have HCELL : Hid (∀ W, Chg No WQ W → W.cell? ⟨ab, aoff + j * 2, none⟩ = some (.int .i64 (np : Int)) ∧ W.cell? ⟨ab, aoff + j * 2 + 1, none⟩ = some (.int .i64 F) ∧ W.cell? ⟨ab, aoff + BB * 2, none⟩ = some (.int .i64 fb)) := Lib.hid (fun W g =>
          ⟨(g.cellD ab _ hab (fun e => e)).trans A0, (g.cellD ab _ hab (fun e => e)).trans A1, (g.cellD ab _ hab (fun e => e)).trans A2⟩)
        clear A0 A1 A2
        refine wp_region_X (fun W => Chg No WQ W) (by kernel_rfl) (by kernel_rfl) ((Chg.refl No WQ).drew) ?_
        refine wpX_val (.slice (some ⟨ab, aoff, none⟩) n xc) rfl (by intro W hW; obtain ⟨a0, a1, a2⟩ := HCELL.out W hW; go_simp) ?_
        simp only [Act.put, List.setIfInBounds_toArray, List.set_cons_zero, List.set_cons_succ]
        refine wpX_val (.int .i64 (j : Int)) rfl (by intro W hW; obtain ⟨a0, a1, a2⟩ := HCELL.out W hW; go_simp) ?_
        simp only [Act.put, List.setIfInBounds_toArray, List.set_cons_zero, List.set_cons_succ]
        refine wpX_val (.pointer (some ⟨ab, aoff + j * 2, none⟩)) rfl (by intro W hW; obtain ⟨a0, a1, a2⟩ := HCELL.out W hW; go_simp) ?_
        simp only [Act.put, List.setIfInBounds_toArray, List.set_cons_zero, List.set_cons_succ]
        refine wpX_val (.agg #[.int .i64 (np : Int), .int .i64 F]) rfl (by intro W hW; obtain ⟨a0, a1, a2⟩ := HCELL.out W hW; go_simp) ?_
        simp only [Act.put, List.setIfInBounds_toArray, List.set_cons_zero, List.set_cons_succ]
        refine wpX_val (.slice o1 np o3) rfl (by intro W hW; obtain ⟨a0, a1, a2⟩ := HCELL.out W hW; go_simp) ?_
        simp only [Act.put, List.setIfInBounds_toArray, List.set_cons_zero, List.set_cons_succ]
        refine wpX_val (.int .i64 (np : Int)) rfl (by intro W hW; obtain ⟨a0, a1, a2⟩ := HCELL.out W hW; go_simp) ?_
        simp only [Act.put, List.setIfInBounds_toArray, List.set_cons_zero, List.set_cons_succ]
        refine wpX_val (.int .i64 F) rfl (by intro W hW; obtain ⟨a0, a1, a2⟩ := HCELL.out W hW; go_simp) ?_
        simp only [Act.put, List.setIfInBounds_toArray, List.set_cons_zero, List.set_cons_succ]
        refine wpX_val (.agg #[.int .i64 (np : Int), .int .i64 F]) rfl (by intro W hW; obtain ⟨a0, a1, a2⟩ := HCELL.out W hW; go_simp) ?_
        simp only [Act.put, List.setIfInBounds_toArray, List.set_cons_zero, List.set_cons_succ]
        refine wpX_val (.bool false) rfl (by intro W hW; go_simp; rw [eqA2_run]; rfl) ?_
        simp only [Act.put, List.setIfInBounds_toArray, List.set_cons_zero, List.set_cons_succ]
        refine wpX_val (.bool false) rfl (by intro W hW; obtain ⟨a0, a1, a2⟩ := HCELL.out W hW; go_simp) ?_
        simp only [Act.put, List.setIfInBounds_toArray, List.set_cons_zero, List.set_cons_succ]
        refine wpX_val (.slice (some ⟨ab, aoff, none⟩) n xc) rfl (by intro W hW; obtain ⟨a0, a1, a2⟩ := HCELL.out W hW; go_simp) ?_
        simp only [Act.put, List.setIfInBounds_toArray, List.set_cons_zero, List.set_cons_succ]
        refine wpX_val (.int .i64 (j : Int)) rfl (by intro W hW; obtain ⟨a0, a1, a2⟩ := HCELL.out W hW; go_simp) ?_
        simp only [Act.put, List.setIfInBounds_toArray, List.set_cons_zero, List.set_cons_succ]
        refine wpX_val (.pointer (some ⟨ab, aoff + j * 2, none⟩)) rfl (by intro W hW; obtain ⟨a0, a1, a2⟩ := HCELL.out W hW; go_simp) ?_
        simp only [Act.put, List.setIfInBounds_toArray, List.set_cons_zero, List.set_cons_succ]
        refine wpX_val (.pointer (some ⟨ab, aoff + j * 2, none⟩)) rfl (by intro W hW; obtain ⟨a0, a1, a2⟩ := HCELL.out W hW; go_simp) ?_
        simp only [Act.put, List.setIfInBounds_toArray, List.set_cons_zero, List.set_cons_succ]
        refine wpX_val (.int .i64 (np : Int)) rfl (by intro W hW; obtain ⟨a0, a1, a2⟩ := HCELL.out W hW; go_simp) ?_
        simp only [Act.put, List.setIfInBounds_toArray, List.set_cons_zero, List.set_cons_succ]
        refine wpX_val (.int .i64 F) rfl (by intro W hW; obtain ⟨a0, a1, a2⟩ := HCELL.out W hW; go_simp) ?_
        simp only [Act.put, List.setIfInBounds_toArray, List.set_cons_zero, List.set_cons_succ]
        refine wpX_val (.bool false) rfl (by intro W hW; obtain ⟨a0, a1, a2⟩ := HCELL.out W hW; go_simp) ?_
        simp only [Act.put, List.setIfInBounds_toArray, List.set_cons_zero, List.set_cons_succ]
        refine wpX_val (.bool false) rfl (by intro W hW; obtain ⟨a0, a1, a2⟩ := HCELL.out W hW; go_simp) ?_
        simp only [Act.put, List.setIfInBounds_toArray, List.set_cons_zero, List.set_cons_succ]
        refine wpX_val (.bool false) rfl (by intro W hW; obtain ⟨a0, a1, a2⟩ := HCELL.out W hW; go_simp) ?_
        simp only [Act.put, List.setIfInBounds_toArray, List.set_cons_zero, List.set_cons_succ]
        refine wpX_val (.slice (some ⟨ab, aoff, none⟩) n xc) rfl (by intro W hW; obtain ⟨a0, a1, a2⟩ := HCELL.out W hW; go_simp) ?_
        simp only [Act.put, List.setIfInBounds_toArray, List.set_cons_zero, List.set_cons_succ]
        refine wpX_val (.int .i64 (j : Int)) rfl (by intro W hW; obtain ⟨a0, a1, a2⟩ := HCELL.out W hW; go_simp) ?_
        simp only [Act.put, List.setIfInBounds_toArray, List.set_cons_zero, List.set_cons_succ]
        refine wpX_val (.pointer (some ⟨ab, aoff + j * 2, none⟩)) rfl (by intro W hW; obtain ⟨a0, a1, a2⟩ := HCELL.out W hW; go_simp) ?_
        simp only [Act.put, List.setIfInBounds_toArray, List.set_cons_zero, List.set_cons_succ]
        refine wpX_val (.pointer (some ⟨ab, aoff + j * 2, none⟩)) rfl (by intro W hW; obtain ⟨a0, a1, a2⟩ := HCELL.out W hW; go_simp) ?_
        simp only [Act.put, List.setIfInBounds_toArray, List.set_cons_zero, List.set_cons_succ]
        refine wpX_val (.int .i64 (np : Int)) rfl (by intro W hW; obtain ⟨a0, a1, a2⟩ := HCELL.out W hW; go_simp) ?_
        simp only [Act.put, List.setIfInBounds_toArray, List.set_cons_zero, List.set_cons_succ]
        refine wpX_val (.slice (some ⟨ab, aoff, none⟩) n xc) rfl (by intro W hW; obtain ⟨a0, a1, a2⟩ := HCELL.out W hW; go_simp) ?_
        simp only [Act.put, List.setIfInBounds_toArray, List.set_cons_zero, List.set_cons_succ]
        refine wpX_val (.int .i64 (BB : Int)) rfl (by intro W hW; obtain ⟨a0, a1, a2⟩ := HCELL.out W hW; go_simp) ?_
        simp only [Act.put, List.setIfInBounds_toArray, List.set_cons_zero, List.set_cons_succ]
        refine wpX_val (.pointer (some ⟨ab, aoff + BB * 2, none⟩)) rfl (by intro W hW; obtain ⟨a0, a1, a2⟩ := HCELL.out W hW; go_simp) ?_
        simp only [Act.put, List.setIfInBounds_toArray, List.set_cons_zero, List.set_cons_succ]
        refine wpX_val (.pointer (some ⟨ab, aoff + BB * 2, none⟩)) rfl (by intro W hW; obtain ⟨a0, a1, a2⟩ := HCELL.out W hW; go_simp) ?_
        simp only [Act.put, List.setIfInBounds_toArray, List.set_cons_zero, List.set_cons_succ]
        refine wpX_val (.int .i64 fb) rfl (by intro W hW; obtain ⟨a0, a1, a2⟩ := HCELL.out W hW; go_simp) ?_
        simp only [Act.put, List.setIfInBounds_toArray, List.set_cons_zero, List.set_cons_succ]
        refine wpX_val (.bool false) rfl (by intro W hW; obtain ⟨a0, a1, a2⟩ := HCELL.out W hW; go_simp) ?_
        simp only [Act.put, List.setIfInBounds_toArray, List.set_cons_zero, List.set_cons_succ]
        refine wpX_val (.bool false) rfl (by intro W hW; obtain ⟨a0, a1, a2⟩ := HCELL.out W hW; go_simp) ?_
        simp only [Act.put, List.setIfInBounds_toArray, List.set_cons_zero, List.set_cons_succ]
        refine wpX_nil (fun W hW => ?_)
        replace b3 := b3.keep hW
        replace hT := hT.keep hW
        replace hA := hA.keep hW
        replace b12 := b12.keep hW
        replace hU := hU.keep hW
        replace kk := kk.keep hW
        clear hrx h7 b23 HCELL hx
        go_wp2_with fail
        go_round
        case rel => exact ⟨j + 1, hlt, by go_num, b3, hT, hA, b12, hU, kk⟩
        case measure => simp [intOf]; omega
      · have hje : j = n := by omega
        subst hje
        clear hlt hT hA b3
        cases oc
        · cases ok
          · go_wp2_with fail
            go_ret
            exact ⟨rfl, kk⟩
          · go_wp2_with fail
            go_ret
            exact ⟨rfl, kk⟩
        · have hoc := HCR.out.1
          have hcv := HCR.out.2
          have hok2 := hoc
          unfold okCruel hasP at hoc
          simp only [Bool.and_eq_true, inB_iff] at hoc
          obtain ⟨x, rfl⟩ : ∃ x : Nat, i = (x : Int) := ⟨i.toNat, by omega⟩
          have hxl : x < u.ps.length := by omega
          unfold cruelV at hcv
          rw [if_pos hok2] at hcv
          have hms := missTr_spec u (x : Int)
          rw [Int.toNat_natCast] at hms
          have hno := miss_no hms
          rw [hcv] at hno
          obtain ⟨pv, rv, he, hps, hrq⟩ := id hU
          simp only [Value.agg.injEq, Array.mk.injEq, List.cons.injEq, and_true, true_and] at he
          obtain ⟨rfl, rfl⟩ := he
          obtain ⟨_, _, he, _, _, _, pf, mf, hl, hcl⟩ := id hps
          simp only [Value.slice.injEq] at he
          obtain ⟨rfl, _, rfl⟩ := he
          obtain ⟨b, off, rfl, _, hb, hcell⟩ := hcl (by intro e; simp [e] at hxl)
          have h7 := hcell x hxl
          obtain ⟨hpj, _⟩ := hl x hxl
          generalize pf x = pj at hpj h7
          obtain ⟨ya, yn, yc, rfl⟩ := hpj.shape
          have hg3 := h7.c3
          have hx0 : (0 : Int) ≤ (x : Int) := Int.natCast_nonneg _
          have hx1 : (x : Int) < (u.ps.length : Int) := by omega
          have HNO := Lib.hid hno
          clear hps hrq hl hcl hcell h7 hoc hok2 hms hno hcv
          obtain ⟨c0, c1, c2, _⟩ := id b12
          cases ok
          · go_wp2_with fail
            refine (vHas_any No _ _ cv _ hpj).mono ?_
            rintro e w20 ⟨rfl, rfl⟩
            rw [HNO.out]
            go_wp2_with fail
            go_ret
            exact ⟨rfl, kk⟩
          · go_wp2_with fail
            refine (vHas_any No _ _ cv _ hpj).mono ?_
            rintro e w20 ⟨rfl, rfl⟩
            rw [HNO.out]
            go_wp2_with fail
            go_ret
            exact ⟨rfl, kk⟩
end Go.Proofs.YtodnkkmjjlfoiaaGreat
