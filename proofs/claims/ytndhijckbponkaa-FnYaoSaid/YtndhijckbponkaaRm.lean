import Derived.Test.YtndhijckbponkaaRl
import Derived.Test.YtndhijckbponkaaRg
import Derived.Test.YtndhijckbponkaaQc
/- valid mixtures, the reference's side -/
namespace Go.Proofs.Ytndhijckbponkaa
open Go.RowKit

set_option maxRecDepth 100000 in
set_option maxHeartbeats 1000000 in
theorem l11Algs_any (A B : Nat → Prop) (v nv : Value) (p : Pr) (ns : List (List (List Int))) (w : World) (hp : PrP p) (h : RPr A w v p) (hn : RIII B w nv ns) :
    Calls Try.prog 112 #[v, nv] w (Ret fun r w' => r = .bool (bP (inB (ns.length : Int) 1 4 = true ∧ ∀ i, i < ns.length → AlgP p (ns.getD i []))) ∧ Chg No w w') := by
  have hv := h
  obtain ⟨mv, sv, rfl, hm, hs⟩ := h
  obtain ⟨ma, mc, rfl⟩ := hm.shape
  obtain ⟨sa, sc, rfl⟩ := hs.shape
  obtain ⟨na, nc, rfl⟩ := hn.shape
  have hnl := hn.1
  go_enter Try.func112, Try.ntmps112
  go_wp2_with fail
  refine bx1 (R := fun W => Code.wp _ _ _ _ W) (fun W0 k0 b0 => ?_)
  have hv0 := hv.keep k0
  have hn0 := hn.keep k0
  obtain ⟨R0, hR0⟩ : ∃ R, w.heap.size = R := ⟨_, rfl⟩
  rw [hR0] at b0 ⊢
  have HP := Lib.hid hp
  clear hm hs hv hn hR0 hp
  go_loopw [5] (fun z wr => ∃ i : Nat, i ≤ ns.length ∧ z = .int .i64 (i : Int) ∧ Hid (∀ s, s < i → AlgP p (ns.getD s [])) ∧ Chg No W0 wr) (fun z _ => ns.length - (intOf z).toNat)
  case atStart => exact ⟨0, Nat.zero_le _, rfl, Lib.hid (fun r hr => absurd hr (Nat.not_lt_zero r)), Chg.refl _ _⟩
  case round =>
    obtain ⟨i, hi, rfl, HI, kr⟩ := hrel
    have hi0 : (0 : Int) ≤ (i : Int) := Int.natCast_nonneg _
    by_cases hlt : i < ns.length
    · have hi1 : (i : Int) < (ns.length : Int) := by omega
      have hwi : IntKind.i64.wrap ((i : Int) + 1) = (i : Int) + 1 := IntWalk.i64_in _ (by omega)
      obtain ⟨nb, nf, ta, tc, rfl, hnb, hcn, htr⟩ := hn0.row hlt
      obtain ⟨nx, hnx⟩ : ∃ nx, ns.getD i [] = nx := ⟨_, rfl⟩
      rw [hnx] at hcn htr
      have HNX := Lib.hid hnx
      clear hnx
      obtain ⟨t, ht⟩ : ∃ t, bP (AlgP p nx) = t := ⟨_, rfl⟩
      have HT := Lib.hid ht
      clear ht
      go_wp2_with fail
      refine wp_region_C (by kernel_rfl) (by kernel_rfl) (fun σ _ F hF hcl => ?_)
      have kF := fun n => kr.keep (hF n)
      have d0 := fun n => (b0.keep (kF n)).c 0 _ rfl
      have d1 := fun n => (b0.keep (kF n)).c 1 _ rfl
      have d2 := fun n => ((kF n).cellD nb (nf + i) hnb (fun e => e)).trans hcn
      have HA : Hid (∀ n, Calls Try.prog 126 #[.agg #[.slice ma p.mv.length mc, .slice sa p.sv.length sc], .slice ta nx.length tc] (F n) (Ret fun r w' => r = .bool t ∧ Chg No (F n) w')) := Lib.hid (fun n => by
        have := l8Alg_any A B _ _ p nx (F n) HP.out (hv0.keep (kF n)) (htr.keep (kF n))
        rwa [HT.out] at this)
      repeat (go_big_quiet_step ((go_at_call 126; exact fam_ret hcl (HA.out _))))
      refine wpQuiet_nil ?_
      rintro _ ⟨nq, rfl⟩
      have kr1 := kF nq
      clear d0 d1 d2 HA hcl
      generalize F nq = W1 at kr1 ⊢
      clear hF kF F
      cases t
      · have HB : Hid (bP (inB (ns.length : Int) 1 4 = true ∧ ∀ i, i < ns.length → AlgP p (ns.getD i [])) = false) := Lib.hid (bP_no (fun e => by
          have e1 := HT.out
          rw [← HNX.out, bP_yes (e.2 i hlt)] at e1; cases e1))
        go_wp2_with fail
        go_ret
        exact ⟨_, rfl, by rw [HB.out]; rfl, k0.keep kr1⟩
      · have HI' : Hid (∀ s, s < i + 1 → AlgP p (ns.getD s [])) := Lib.hid (fun s hs => by
          by_cases e : s = i
          · subst e
            rw [HNX.out]
            exact bP_iff.1 HT.out
          · exact HI.out s (by omega))
        go_wp2_with fail
        go_round
        case rel => exact ⟨i + 1, by omega, by go_num, HI', kr1⟩
        case measure => simp [intOf]; omega
    · have hie : i = ns.length := by omega
      subst hie
      go_wp2_with fail
      refine (l1In_any _ _ _ _).mono ?_
      rintro e w1 ⟨rfl, rfl⟩
      have HB : Hid (bP (inB (ns.length : Int) 1 4 = true ∧ ∀ i, i < ns.length → AlgP p (ns.getD i [])) = inB (ns.length : Int) 1 4) := Lib.hid (by
        cases e : inB (ns.length : Int) 1 4
        · exact bP_no (fun e => by cases e.1)
        · exact bP_yes ⟨rfl, HI.out⟩)
      rw [← HB.out]
      go_wp2_with fail
      go_ret
      exact ⟨_, rfl, rfl, k0.keep kr⟩
set_option maxRecDepth 100000 in
set_option maxHeartbeats 1000000 in
theorem l11Mixture_any (A B : Nat → Prop) (v cv : Value) (p : Pr) (ns : List (List (List Int))) (ws : List Int) (w : World) (h : RPr A w v p) (hc : RMx B w cv ns ws) :
    Calls Try.prog 76 #[v, cv] w (Ret fun r w' => r = .bool (mixB p ns ws) ∧ Chg No w w') := by
  have hv := h
  obtain ⟨mv, sv, rfl, hm, hs⟩ := h
  obtain ⟨wv, qv, rfl, hw, hq⟩ := hc
  obtain ⟨ma, mc, rfl⟩ := hm.shape
  obtain ⟨sa, sc, rfl⟩ := hs.shape
  obtain ⟨qa, qc, rfl⟩ := hq.shape
  obtain ⟨wa, wc, rfl, _⟩ := id hw
  go_enter Try.func76, Try.ntmps76
  go_wp2_with fail
  refine bx2 (R := fun W => Calls _ _ _ W _) (fun W0 k0 b0 b1 => ?_)
  refine (l8Good_any A _ p W0 (hv.keep k0)).mono ?_
  rintro e w1 ⟨_, rfl, rfl, k1⟩
  have kk := k0.keep k1
  have b0 := b0.keep k1
  have b1 := b1.keep k1
  have g0 := b0.c 0 _ rfl
  have g1 := b0.c 1 _ rfl
  have g2 := b1.c 0 _ rfl
  have g3 := b1.c 1 _ rfl
  cases hp : bP (PrP p)
  · have HB : Hid (mixB p ns ws = false) := Lib.hid (by unfold mixB; rw [hp]; rfl)
    clear hp
    go_wp2_with fail
    go_ret
    exact ⟨_, rfl, by rw [HB.out]; rfl, kk⟩
  · have HM : Hid (mixB p ns ws = bP (MixP p ns ws)) := Lib.hid (by unfold mixB; rw [hp]; rfl)
    have hpp := bP_iff.1 hp
    have HP := Lib.hid hp
    clear hp
    go_wp2_with fail
    refine (l11Algs_any A B _ _ p ns w1 hpp (hv.keep kk) (hq.keep kk)).mono ?_
    rintro e w2 ⟨_, rfl, rfl, k2⟩
    have kk := kk.keep k2
    have b0 := b0.keep k2
    have b1 := b1.keep k2
    have g2 := b1.c 0 _ rfl
    have g3 := b1.c 1 _ rfl
    obtain ⟨t, ht⟩ : ∃ t, bP (inB (ns.length : Int) 1 4 = true ∧ ∀ i, i < ns.length → AlgP p (ns.getD i [])) = t := ⟨_, rfl⟩
    have HT := Lib.hid ht
    rw [ht]
    clear ht
    cases t
    · have HB : Hid (mixB p ns ws = false) := Lib.hid (by
        rw [HM.out]
        exact bP_no (fun e => by
          have e1 := HT.out
          rw [bP_yes ⟨e.1, e.2.2.2⟩] at e1; cases e1))
      go_wp2_with fail
      go_ret
      exact ⟨_, rfl, by rw [HB.out]; rfl, kk⟩
    · have H1 := Lib.hid (bP_iff.1 HT.out)
      by_cases hl : (ws.length : Int) = (ns.length : Int)
      · have hbl : ((ws.length : Int) == (ns.length : Int)) = true := by rw [hl]; exact beq_self_eq_true _
        have HB : Hid (mixB p ns ws = wgB 1 ws) := Lib.hid (by
          rw [HM.out]
          cases e : wgB 1 ws
          · exact mixP_no3 e
          · exact bP_yes ⟨H1.out.1, hl, e, H1.out.2⟩)
        clear hl
        go_wp2_with fail
        refine (l11Weights_any B _ ws 1 w2 (hw.keep kk)).mono ?_
        rintro e w3 ⟨rfl, rfl⟩
        rw [← HB.out]
        go_wp2_with fail
        go_ret
        exact ⟨_, rfl, rfl, kk⟩
      · have HB : Hid (mixB p ns ws = false) := Lib.hid (by rw [HM.out]; exact mixP_no2 hl)
        have hbl : ((ws.length : Int) == (ns.length : Int)) = false := beq_eq_false_iff_ne.2 hl
        clear hl
        go_wp2_with fail
        go_ret
        exact ⟨_, rfl, by rw [HB.out]; rfl, kk⟩
set_option maxRecDepth 100000 in
set_option maxHeartbeats 1000000 in
theorem specIsMixture_any (A B : Nat → Prop) (v cv : Value) (p : Pr) (ns : List (List (List Int))) (ws : List Int) (w : World) (h : RPr A w v p) (hc : RMx B w cv ns ws) :
    Calls Try.prog 32 #[v, cv] w (Ret2 fun r0 r1 w' => r0 = .bool (mixB p ns ws) ∧ r1 = .bool (bP (PrP p)) ∧ Chg No w w') := by
  have hv := h
  have hcv := hc
  obtain ⟨mv, sv, rfl, hm, hs⟩ := h
  obtain ⟨wv, qv, rfl, hw, hq⟩ := hc
  obtain ⟨ma, mc, rfl⟩ := hm.shape
  obtain ⟨sa, sc, rfl⟩ := hs.shape
  obtain ⟨qa, qc, rfl⟩ := hq.shape
  obtain ⟨wa, wc, rfl, _⟩ := id hw
  go_enter Try.func32, Try.ntmps32
  go_wp2_with fail
  refine bx2 (R := fun W => Calls _ _ _ W _) (fun W0 k0 b0 b1 => ?_)
  refine (l8Good_any A _ p W0 (hv.keep k0)).mono ?_
  rintro e w1 ⟨_, rfl, rfl, k1⟩
  have kk := k0.keep k1
  have b0 := b0.keep k1
  have b1 := b1.keep k1
  have g0 := b0.c 0 _ rfl
  have g1 := b0.c 1 _ rfl
  have g2 := b1.c 0 _ rfl
  have g3 := b1.c 1 _ rfl
  cases hp : bP (PrP p)
  · have HB : Hid (mixB p ns ws = false) := Lib.hid (by unfold mixB; rw [hp]; rfl)
    have HP := Lib.hid hp
    clear hp
    go_wp2_with fail
    go_ret2
    exact ⟨_, _, rfl, by rw [HB.out]; rfl, by rw [HP.out]; rfl, kk⟩
  · have HP := Lib.hid hp
    clear hp
    go_wp2_with fail
    refine (l11Mixture_any A B _ _ p ns ws w1 (hv.keep kk) (hcv.keep kk)).mono ?_
    rintro e w2 ⟨_, rfl, rfl, k2⟩
    have kk := kk.keep k2
    go_wp2_with fail
    go_ret2
    exact ⟨_, _, rfl, rfl, by rw [HP.out]; rfl, kk⟩
end Go.Proofs.Ytndhijckbponkaa
