import Derived.Test.YtegipldajbkjfaaGreatUb
import Derived.Test.YtegipldajbkjfaaGreatUf
import Derived.Test.YtegipldajbkjfaaGreatUg
/- FnInclusion: the law -/
namespace Go.Proofs.YtegipldajbkjfaaGreat
open Go.RowKit

theorem getD_left {α : Type} (a b : List α) (d : α) (i : Nat) (h : i < a.length) : (a ++ b).getD i d = a.getD i d := by
  rw [List.getD_eq_getElem?_getD, List.getD_eq_getElem?_getD, List.getElem?_append_left h]
theorem getD_last {α : Type} (a : List α) (x d : α) (i : Nat) (h : i = a.length) : (a ++ [x]).getD i d = x := by
  subst h
  rw [List.getD_eq_getElem?_getD, List.getElem?_append_right (Nat.le_refl _), Nat.sub_self]
  rfl
theorem pagesTo_at (c : Ca) (l : List Int) : ∀ j i, i < j → (pagesTo c l j).getD i [] = diffL (runC c (l.take (i + 1))).pages := by
  intro j
  induction j with
  | zero => exact fun i hi => absurd hi (Nat.not_lt_zero _)
  | succ j ih =>
    intro i hi
    rw [pagesTo]
    by_cases e : i < j
    · rw [getD_left _ _ _ _ (by rw [pagesTo_len]; exact e)]
      exact ih i e
    · have e : i = j := by omega
      subst e
      rw [getD_last _ _ _ _ (pagesTo_len _ _ _).symm]
theorem bySizeTo_at (p : Int) (l : List Int) : ∀ j i, i < j → (bySizeTo p l j).getD i 0 = ((places (newC p ((i : Int) + 1)) l).length : Int) := by
  intro j
  induction j with
  | zero => exact fun i hi => absurd hi (Nat.not_lt_zero _)
  | succ j ih =>
    intro i hi
    rw [bySizeTo]
    by_cases e : i < j
    · rw [getD_left _ _ _ _ (by rw [bySizeTo_len]; exact e)]
      exact ih i e
    · have e : i = j := by omega
      subst e
      rw [getD_last _ _ _ _ (bySizeTo_len _ _ _).symm]
theorem firstN_some {p : Nat → Bool} {n i : Nat} (h : firstN p n = some i) : i < n ∧ p i = true := by
  induction n with
  | zero => cases h
  | succ n ih =>
    unfold firstN at h
    split at h
    · rename_i j hj
      have h1 := ih (by rw [hj]; exact h)
      exact ⟨by omega, h1.2⟩
    · split at h
      · rename_i hp
        have h2 : n = i := Option.some.inj h
        subst h2
        exact ⟨Nat.lt_succ_self _, hp⟩
      · cases h
theorem firstN_no {p : Nat → Bool} {n : Nat} (h : firstN p n = none) : NoneTo p n := by
  induction n with
  | zero => exact NoneTo.zero p
  | succ n ih =>
    unfold firstN at h
    split at h
    · cases h
    · rename_i hj
      split at h
      · cases h
      · rename_i hp
        exact (ih hj).succ (by simpa using hp)
theorem part_first (b : List Int) : ∀ a : List Int, partB a b = false → ∃ j, j < a.length ∧ hasB b (a.getD j 0) = false ∧ ∀ i, i < j → hasB b (a.getD i 0) = true := by
  intro a
  induction a with
  | nil => intro h; cases h
  | cons x a ih =>
    intro h
    cases hx : hasB b x with
    | false => exact ⟨0, Nat.succ_pos _, hx, fun i hi => absurd hi (Nat.not_lt_zero _)⟩
    | true =>
      have h2 : partB a b = false := by
        unfold partB at h ⊢
        rw [List.all_cons, hx] at h
        exact h
      obtain ⟨j, h3, h4, h5⟩ := ih h2
      refine ⟨j + 1, by simpa using h3, by simpa using h4, fun i hi => ?_⟩
      cases i with
      | zero => exact hx
      | succ i => simpa using h5 i (by omega)
theorem inclV_stack {n p k : Int} {l : List Int} (hp : p = 1 ∨ p = 7) : inclV n p k l = none := by
  unfold inclV
  split
  · rename_i h
    rw [Bool.and_eq_true] at h
    have hk : 1 ≤ k := by
      have h1 := h.1
      simp only [askedB, Bool.and_eq_true, inB_iff] at h1
      exact h1.1.2.1
    refine firstN_none (fun i hi => ?_)
    unfold inclTo
    rw [pagesTo_at _ _ _ _ hi, pagesTo_at _ _ _ _ hi]
    have : partB (diffL (runC (newC p k) (l.take (i + 1))).pages) (diffL (runC (newC p (k + 1)) (l.take (i + 1))).pages) = true := by
      unfold partB
      rw [List.all_eq_true]
      intro x hx
      exact hasB_true.2 (diffL_mem.2 (stack_incl hp hk _ x (diffL_mem.1 hx)))
    rw [this]
    rfl
  · rfl
theorem anomV_stack {n p : Int} {l : List Int} (hp : p = 1 ∨ p = 7) : anomV n p l = none := by
  unfold anomV
  split
  · refine firstN_none (fun i hi => ?_)
    unfold worse
    rw [bySizeTo_at _ _ _ _ (by omega), bySizeTo_at _ _ _ _ (by omega)]
    have := places_fewer hp (k := (i : Int) + 1) (by omega) l l.length
    simp only [decide_eq_false_iff_not]
    unfold places
    push_cast
    omega
  · rfl
theorem anomV_some {n p : Int} {l : List Int} {i : Nat} (h : anomV n p l = some i) : askedB n p 1 l = true ∧ i < 5 ∧ (bySizeTo p l 6).getD i 0 < (bySizeTo p l 6).getD (i + 1) 0 := by
  unfold anomV at h
  split at h
  · rename_i ha
    have := firstN_some h
    exact ⟨ha, this.1, by simpa [worse] using this.2⟩
  · cases h
theorem anomV_no {n p : Int} {l : List Int} (h : anomV n p l = none) (ha : askedB n p 1 l = true) (i : Nat) (hi : i < 5) : ¬ (bySizeTo p l 6).getD i 0 < (bySizeTo p l 6).getD (i + 1) 0 := by
  unfold anomV at h
  rw [if_pos ha] at h
  have := firstN_no h i hi
  simpa [worse] using this
theorem inclV_some {n p k : Int} {l : List Int} {i : Nat} (h : inclV n p k l = some i) : askedB n p k l = true ∧ askedB n p (k + 1) l = true ∧ i < l.length ∧
    partB ((pagesTo (newC p k) l l.length).getD i []) ((pagesTo (newC p (k + 1)) l l.length).getD i []) = false := by
  unfold inclV at h
  split at h
  · rename_i ha
    rw [Bool.and_eq_true] at ha
    have := firstN_some h
    refine ⟨ha.1, ?_, this.1, by simpa [inclTo] using this.2⟩
    obtain ⟨h1, h6⟩ := ha
    have h6 : ¬ k = 6 := by simpa using h6
    simp only [askedB, Bool.and_eq_true, inB_iff] at h1 ⊢
    exact ⟨⟨h1.1.1, by omega, by omega⟩, h1.2⟩
  · cases h

set_option maxRecDepth 100000 in
set_option maxHeartbeats 4000000 in
theorem law_FnInclusion (v : Value) (n : Nat) (w : World) (h : Code w v n) :
    Calls Tryz.prog 5 #[v] w fun e w' => e = .returned (.bool true) ∧ Chg No w w' := by
  obtain ⟨a, cp, rfl⟩ := h.shape
  go_enter Tryz.func5, Tryz.ntmps5
  go_wp2_with fail
  refine (vBig_any _ _ _ h).mono ?_
  rintro e w' ⟨rfl, rfl⟩
  by_cases hbig : (65536 : Int) < (n : Int)
  · go_wp2_with fail
    go_ret
    exact ⟨rfl, Chg.refl No _⟩
  · go_wp2_with fail
    refine (DrawIncl_any _ _ _ h (by omega)).mono ?_
    rintro e w1 ⟨m, p, k, rv, l, rfl, ho, hl, k1⟩
    have hr := ho.readNo
    clear ho
    go_wp2_with fail
    refine (implInclusionBreak_any m p k rv l w1 hr).mono ?_
    rintro e w2 ⟨_, _, rfl, rfl, rfl, k2⟩
    have hr := hr.keep k2
    have kk2 := k1.keep k2
    go_wp2_with fail
    refine (specInclusionBreak_any m p k rv l w2 hr).mono ?_
    rintro e w3 ⟨_, _, rfl, rfl, rfl, k3⟩
    have hr := hr.keep k3
    have kk3 := kk2.keep k3
    go_wp2_with fail
    refine (vCut_any _ _ 1 w3 (h.keep kk3) (by omega) (by omega)).mono ?_
    rintro e w4 ⟨cv, cn, rfl, hcode, hcn, k4⟩
    have hr := hr.keep k4
    have kk4 := kk3.keep k4
    go_wp2_with fail
    refine (DrawAnom_any _ _ _ hcode hcn).mono ?_
    rintro e w5 ⟨m2, q, rv2, l2, rfl, ho2, hl2, k5⟩
    have hr := hr.keep k5
    have kk5 := kk4.keep k5
    have hr2 := ho2.readNo
    clear ho2 hcode
    go_wp2_with fail
    refine (implAnomalyOf_any m2 q rv2 l2 w5 hr2).mono ?_
    rintro e w6 ⟨_, _, rfl, rfl, rfl, k6⟩
    have hr := hr.keep k6
    have hr2 := hr2.keep k6
    have kk6 := kk5.keep k6
    go_wp2_with fail
    refine (specAnomalyOf_any m2 q rv2 l2 w6 hr2).mono ?_
    rintro e w7 ⟨_, _, rfl, rfl, rfl, k7⟩
    have hr := hr.keep k7
    have hr2 := hr2.keep k7
    have kk7 := kk6.keep k7
    obtain ⟨fl, hfl⟩ : ∃ fl, (if askedB m2 q 1 l2 then bySizeTo q l2 6 else []) = fl := ⟨_, rfl⟩
    go_wp2_with fail
    refine (implFaultsBySize_any m2 q rv2 l2 w7 hr2).mono ?_
    rw [hfl]
    rintro e w8 ⟨fv, _, rfl, rfl, of, k8⟩
    have hr := hr.keep k8
    have hr2 := hr2.keep k8
    have kk8 := kk7.keep k8
    go_wp2_with fail
    refine (specFaultsBySize_any m2 q rv2 l2 w8 hr2).mono ?_
    rw [hfl]
    rintro e w9 ⟨gv, _, rfl, rfl, og, k9⟩
    have hr := hr.keep k9
    have hr2 := hr2.keep k9
    have kk9 := kk8.keep k9
    have of := of.keep k9
    have HFL := Lib.hid hfl
    clear hfl
    go_wp2_with fail
    refine (vInts_same No No fv gv fl w9 of.readNo og.readNo).mono ?_
    rintro e w10 ⟨_, rfl, rfl, k10⟩
    have hr := hr.keep k10
    have hr2 := hr2.keep k10
    have kk10 := kk9.keep k10
    have of := of.keep k10
    clear og k1 k2 k3 k4 k5 k6 k7 k8 k9 k10 kk2 kk3 kk4 kk5 kk6 kk7 kk8 kk9
    obtain ⟨fa, fc, rfl, hf1, hf2, hf3⟩ := of.view
    cases hanom : anomV m2 q l2 with
    | none =>
      cases hask : askedB m2 q 1 l2 with
      | false =>
        go_wp2_with fail
        go_quiet (fail)
        have kd := (Chg.refl No w10).drewN nq
        have hr := hr.keep kd
        have hr2 := hr2.keep kd
        have kk := kk10.keep kd
        generalize w10.drewN nq = W1 at kd hr hr2 kk ⊢
        go_wp2_with fail
        go_loopw [22] (fun i wr => i = .int .i64 1 ∧ wr = W1) (fun _ _ => 1)
        case atStart => exact ⟨rfl, rfl⟩
        case round =>
          obtain ⟨rfl, rfl⟩ := hrel
          go_wp2_with fail
          refine (implInclusionBreak_any m 1 k rv l wr hr).mono ?_
          rw [inclV_stack (.inl rfl)]
          rintro e wa ⟨_, _, rfl, rfl, rfl, ka⟩
          go_wp2_with fail
          refine (implInclusionBreak_any m 7 k rv l wa (hr.keep ka)).mono ?_
          rw [inclV_stack (.inr rfl)]
          rintro e wb ⟨_, _, rfl, rfl, rfl, kb⟩
          go_wp2_with fail
          refine (implAnomalyOf_any m2 1 rv2 l2 wb ((hr2.keep ka).keep kb)).mono ?_
          rw [anomV_stack (.inl rfl)]
          rintro e wc ⟨_, _, rfl, rfl, rfl, kc⟩
          go_wp2_with fail
          refine (implAnomalyOf_any m2 7 rv2 l2 wc (((hr2.keep ka).keep kb).keep kc)).mono ?_
          rw [anomV_stack (.inr rfl)]
          rintro e wd ⟨_, _, rfl, rfl, rfl, kd⟩
          have kD := (((kk.keep ka).keep kb).keep kc).keep kd
          have hrD := (((hr.keep ka).keep kb).keep kc).keep kd
          cases hincl : inclV m p k l with
          | none =>
            go_wp2_with fail
            go_ret
            exact ⟨rfl, kD⟩
          | some at_ =>
            simp only [idxOr0]
            obtain ⟨ha1, ha2, hil, hpf⟩ := inclV_some hincl
            obtain ⟨j0, hj0, hno, hyes⟩ := part_first _ _ hpf
            have hwk : IntKind.i64.wrap (k + 1) = k + 1 := by
              have h1 := ha1
              simp only [askedB, Bool.and_eq_true, inB_iff] at h1
              exact IntWalk.i64_in _ (by omega)
            obtain ⟨S, hS⟩ : ∃ S, pagesTo (newC p k) l l.length = S := ⟨_, rfl⟩
            obtain ⟨G, hG⟩ : ∃ G, pagesTo (newC p (k + 1)) l l.length = G := ⟨_, rfl⟩
            have hSl : S.length = l.length := by rw [← hS, pagesTo_len]
            have hGl : G.length = l.length := by rw [← hG, pagesTo_len]
            have hSS : (if askedB m p k l then pagesTo (newC p k) l l.length else []) = S := by rw [ha1, if_pos rfl]; exact hS
            have hGG : (if askedB m p (k + 1) l then pagesTo (newC p (k + 1)) l l.length else []) = G := by rw [ha2, if_pos rfl]; exact hG
            rw [hS] at hj0 hno hyes
            rw [hG] at hno hyes
            have HNO := Lib.hid hno
            have HYES := Lib.hid hyes
            have HS := Lib.hid hSS
            have HG := Lib.hid hGG
            have HH := Lib.hid (And.intro ha1 (And.intro ha2 hincl))
            clear hno hyes hpf hS hG hSS hGG ha1 ha2 hincl
            go_wp2_with fail
            refine (implContentsOf_any No m p k rv l wd hrD).mono ?_
            rw [HS.out]
            rintro e we ⟨sv, _, rfl, _, ⟨F1, os⟩, ke⟩
            go_wp2_with fail
            refine (implContentsOf_any No m p (k + 1) rv l we (hrD.keep ke)).mono ?_
            rw [HG.out]
            rintro e wf ⟨gv, _, rfl, _, ⟨F2, og⟩, kf⟩
            have kF := (kD.keep ke).keep kf
            have rs := (os.keep kf).readNo
            have rg := og.readNo
            obtain ⟨sa, sc, rfl, hs1, hs2, hsv⟩ := rs.view
            obtain ⟨ga, gc, rfl, hg1, hg2, hgv⟩ := rg.view
            obtain ⟨sb, so, sx, rfl, _, hsb, hsc, hsx⟩ := hsv at_ (by omega)
            obtain ⟨gb, go, gx, rfl, _, hgb, hgc, hgx⟩ := hgv at_ (by omega)
            obtain ⟨sl, hsl⟩ : ∃ sl, S.getD at_ [] = sl := ⟨_, rfl⟩
            obtain ⟨gl, hgl⟩ : ∃ gl, G.getD at_ [] = gl := ⟨_, rfl⟩
            rw [hsl] at hj0 hsx
            rw [hgl] at hgx
            have hno := HNO.out
            have hyes := HYES.out
            rw [hsl, hgl] at hno hyes
            obtain ⟨xa, xc, rfl, hx1, hx2, _, _, hxv⟩ := id hsx
            obtain ⟨xb, xo, rfl, _, hxb, hxc⟩ := hxv (by intro e; rw [e] at hj0; exact absurd hj0 (Nat.not_lt_zero _))
            have HXC := Lib.hid hxc
            have HN := Lib.hid hno
            have HY := Lib.hid hyes
            obtain ⟨gya, gyn, gyc, rfl⟩ := hgx.shape
            clear hxc hno hyes HNO HYES hsl hgl hsv hgv hxv os og
            have ht0 : (0 : Int) ≤ (at_ : Int) := Int.natCast_nonneg _
            have ht1 : (at_ : Int) < (S.length : Int) := by omega
            have ht2 : (at_ : Int) < (G.length : Int) := by omega
            go_wp2_with fail
            go_loopw [35] (fun i wr => ∃ j : Nat, j ≤ j0 ∧ i = .int .i64 j ∧ Chg No wf wr) (fun i _ => j0 - (intOf i).toNat)
            case atStart => exact ⟨0, Nat.zero_le _, rfl, Chg.refl No wf⟩
            case round =>
              obtain ⟨j, hj, rfl, hch⟩ := hrel
              have c1 := (hch.cellD _ _ hsb (fun e => e)).trans hsc
              have c2 := (hch.cellD _ _ hgb (fun e => e)).trans hgc
              have c3 := (hch.cellD _ _ hxb (fun e => e)).trans (HXC.out j (by omega))
              have hg3 := hgx.keep hch
              obtain ⟨y, hy⟩ : ∃ y, sl.getD j 0 = y := ⟨_, rfl⟩
              rw [hy] at c3
              have hjj0 : (0 : Int) ≤ (j : Int) := Int.natCast_nonneg _
              have hjj1 : (j : Int) < (sl.length : Int) := by omega
              have hjw : IntKind.i64.wrap ((j : Int) + 1) = (j : Int) + 1 := IntWalk.i64_in _ (by omega)
              by_cases hlt : j < j0
              · have hh : hasB gl y = true := by rw [← hy]; exact HY.out j hlt
                clear hy
                go_wp2_with fail
                go_quiet ((go_at_call 19; exact quiet_sym (vHas_any No _ _ _ _ (by exact hg3.keep ((Chg.refl No wr).drewN _)))))
                have kd2 := (Chg.refl No wr).drewN nq
                have hch2 := hch.keep kd2
                generalize wr.drewN nq = W2 at hch2 ⊢
                clear c1 c2 c3
                go_wp2_with fail
                go_round
                case rel => exact ⟨j + 1, by omega, by go_num, hch2⟩
                case measure => simp [intOf]; omega
              · have hjj : j = j0 := by omega
                have hh : hasB gl y = false := by rw [← hy, hjj]; exact HN.out
                clear hy
                subst hjj
                go_wp2_with fail
                go_quiet ((go_at_call 19; exact quiet_sym (vHas_any No _ _ _ _ (by exact hg3.keep ((Chg.refl No wr).drewN _)))))
                have kd2 := (Chg.refl No wr).drewN nq
                have hch2 := hch.keep kd2
                generalize wr.drewN nq = W2 at hch2 ⊢
                go_wp2_with fail
                go_ret
                exact ⟨rfl, kF.keep hch2⟩
      | true =>
        have hfl : fl.length = 6 := by
          have := HFL.out
          rw [hask, if_pos rfl] at this
          rw [← this, bySizeTo_len]
        have hno : ∀ i, i < 5 → ¬ fl.getD i 0 < fl.getD (i + 1) 0 := by
          have := HFL.out
          rw [hask, if_pos rfl] at this
          rw [← this]
          exact anomV_no hanom hask
        have HNO := Lib.hid hno
        clear hno
        go_wp2_with fail
        go_quiet (fail)
        have kd := (Chg.refl No w10).drewN nq
        have hr := hr.keep kd
        have hr2 := hr2.keep kd
        have kk := kk10.keep kd
        generalize w10.drewN nq = W1 at kd hr hr2 kk ⊢
        go_wp2_with fail
        obtain ⟨fg, rfl, _, hfg, hfc1, _⟩ := hf3 (by omega)
        have hfc2 : ∀ i, i < 6 → W1.cell? ⟨fg, i, none⟩ = some (.int .i64 (fl.getD i 0)) := fun i hi => (kd.cellD fg i hfg (fun e => e)).trans (hfc1 i (by omega))
        have hfgW : fg < W1.heap.size := Nat.lt_of_lt_of_le hfg kd.size
        have HFC := Lib.hid hfc2
        clear hfc1 hfc2 hf3
        go_loopw [22] (fun i wr => ∃ j : Nat, 1 ≤ j ∧ j ≤ 6 ∧ i = .int .i64 j ∧ Chg No W1 wr) (fun i _ => 6 - (intOf i).toNat)
        case atStart => exact ⟨1, by omega, by omega, rfl, Chg.refl No W1⟩
        case round =>
          obtain ⟨j, hj1, hj6, rfl, hch⟩ := hrel
          by_cases hlt : j < 6
          · obtain ⟨i, rfl⟩ : ∃ i, j = i + 1 := ⟨j - 1, by omega⟩
            obtain ⟨y, hy⟩ : ∃ y, fl.getD i 0 = y := ⟨_, rfl⟩
            obtain ⟨z, hz⟩ : ∃ z, fl.getD (i + 1) 0 = z := ⟨_, rfl⟩
            have hc1 := (hch.cellD fg i hfgW (fun e => e)).trans (HFC.out i (by omega))
            have hc2 := (hch.cellD fg (i + 1) hfgW (fun e => e)).trans (HFC.out (i + 1) hlt)
            have hyz := HNO.out i (by omega)
            rw [hy, hz] at hyz
            rw [hy] at hc1
            rw [hz] at hc2
            clear hy hz
            have hw1 : IntKind.i64.wrap (((i + 1 : Nat) : Int) - 1) = (i : Int) := (IntWalk.i64_in _ (by omega)).trans (by omega)
            have hw2 : IntKind.i64.wrap (((i + 1 : Nat) : Int) + 1) = ((i + 2 : Nat) : Int) := (IntWalk.i64_in _ (by omega)).trans (by omega)
            have hi0 : (0 : Int) ≤ (i : Int) := Int.natCast_nonneg _
            have hi1 : (i : Int) < (fl.length : Int) := by omega
            have hi2 : (0 : Int) ≤ ((i + 1 : Nat) : Int) := Int.natCast_nonneg _
            have hi3 : ((i + 1 : Nat) : Int) < (fl.length : Int) := by omega
            obtain ⟨I1, hI1⟩ : ∃ I1 : Nat, i + 1 = I1 := ⟨_, rfl⟩
            rw [hI1] at hw1 hw2 hi2 hi3 hc2 ⊢
            go_wp2_with fail
            go_quiet (fail)
            have kd2 := (Chg.refl No wr).drewN nq
            have hch := hch.keep kd2
            generalize wr.drewN nq = W2 at hch ⊢
            clear hc1 hc2
            go_wp2_with fail
            go_round
            case rel => exact ⟨i + 2, by omega, by omega, rfl, hch⟩
            case measure => simp [intOf]; omega
          · have h6 : j = 6 := by omega
            subst h6
            have hr := hr.keep hch
            have hr2 := hr2.keep hch
            have kk := kk.keep hch
            go_wp2_with fail
            refine (implInclusionBreak_any m 1 k rv l wr hr).mono ?_
            rw [inclV_stack (.inl rfl)]
            rintro e wa ⟨_, _, rfl, rfl, rfl, ka⟩
            go_wp2_with fail
            refine (implInclusionBreak_any m 7 k rv l wa (hr.keep ka)).mono ?_
            rw [inclV_stack (.inr rfl)]
            rintro e wb ⟨_, _, rfl, rfl, rfl, kb⟩
            go_wp2_with fail
            refine (implAnomalyOf_any m2 1 rv2 l2 wb ((hr2.keep ka).keep kb)).mono ?_
            rw [anomV_stack (.inl rfl)]
            rintro e wc ⟨_, _, rfl, rfl, rfl, kc⟩
            go_wp2_with fail
            refine (implAnomalyOf_any m2 7 rv2 l2 wc (((hr2.keep ka).keep kb).keep kc)).mono ?_
            rw [anomV_stack (.inr rfl)]
            rintro e wd ⟨_, _, rfl, rfl, rfl, kd⟩
            have kD := (((kk.keep ka).keep kb).keep kc).keep kd
            have hrD := (((hr.keep ka).keep kb).keep kc).keep kd
            cases hincl : inclV m p k l with
            | none =>
              go_wp2_with fail
              go_ret
              exact ⟨rfl, kD⟩
            | some at_ =>
              simp only [idxOr0]
              obtain ⟨ha1, ha2, hil, hpf⟩ := inclV_some hincl
              obtain ⟨j0, hj0, hno, hyes⟩ := part_first _ _ hpf
              have hwk : IntKind.i64.wrap (k + 1) = k + 1 := by
                have h1 := ha1
                simp only [askedB, Bool.and_eq_true, inB_iff] at h1
                exact IntWalk.i64_in _ (by omega)
              obtain ⟨S, hS⟩ : ∃ S, pagesTo (newC p k) l l.length = S := ⟨_, rfl⟩
              obtain ⟨G, hG⟩ : ∃ G, pagesTo (newC p (k + 1)) l l.length = G := ⟨_, rfl⟩
              have hSl : S.length = l.length := by rw [← hS, pagesTo_len]
              have hGl : G.length = l.length := by rw [← hG, pagesTo_len]
              have hSS : (if askedB m p k l then pagesTo (newC p k) l l.length else []) = S := by rw [ha1, if_pos rfl]; exact hS
              have hGG : (if askedB m p (k + 1) l then pagesTo (newC p (k + 1)) l l.length else []) = G := by rw [ha2, if_pos rfl]; exact hG
              rw [hS] at hj0 hno hyes
              rw [hG] at hno hyes
              have HNO := Lib.hid hno
              have HYES := Lib.hid hyes
              have HS := Lib.hid hSS
              have HG := Lib.hid hGG
              have HH := Lib.hid (And.intro ha1 (And.intro ha2 hincl))
              clear hno hyes hpf hS hG hSS hGG ha1 ha2 hincl
              go_wp2_with fail
              refine (implContentsOf_any No m p k rv l wd hrD).mono ?_
              rw [HS.out]
              rintro e we ⟨sv, _, rfl, _, ⟨F1, os⟩, ke⟩
              go_wp2_with fail
              refine (implContentsOf_any No m p (k + 1) rv l we (hrD.keep ke)).mono ?_
              rw [HG.out]
              rintro e wf ⟨gv, _, rfl, _, ⟨F2, og⟩, kf⟩
              have kF := (kD.keep ke).keep kf
              have rs := (os.keep kf).readNo
              have rg := og.readNo
              obtain ⟨sa, sc, rfl, hs1, hs2, hsv⟩ := rs.view
              obtain ⟨ga, gc, rfl, hg1, hg2, hgv⟩ := rg.view
              obtain ⟨sb, so, sx, rfl, _, hsb, hsc, hsx⟩ := hsv at_ (by omega)
              obtain ⟨gb, go, gx, rfl, _, hgb, hgc, hgx⟩ := hgv at_ (by omega)
              obtain ⟨sl, hsl⟩ : ∃ sl, S.getD at_ [] = sl := ⟨_, rfl⟩
              obtain ⟨gl, hgl⟩ : ∃ gl, G.getD at_ [] = gl := ⟨_, rfl⟩
              rw [hsl] at hj0 hsx
              rw [hgl] at hgx
              have hno := HNO.out
              have hyes := HYES.out
              rw [hsl, hgl] at hno hyes
              obtain ⟨xa, xc, rfl, hx1, hx2, _, _, hxv⟩ := id hsx
              obtain ⟨xb, xo, rfl, _, hxb, hxc⟩ := hxv (by intro e; rw [e] at hj0; exact absurd hj0 (Nat.not_lt_zero _))
              have HXC := Lib.hid hxc
              have HN := Lib.hid hno
              have HY := Lib.hid hyes
              obtain ⟨gya, gyn, gyc, rfl⟩ := hgx.shape
              clear hxc hno hyes HNO HYES hsl hgl hsv hgv hxv os og
              have ht0 : (0 : Int) ≤ (at_ : Int) := Int.natCast_nonneg _
              have ht1 : (at_ : Int) < (S.length : Int) := by omega
              have ht2 : (at_ : Int) < (G.length : Int) := by omega
              go_wp2_with fail
              go_loopw [35] (fun i wr => ∃ j : Nat, j ≤ j0 ∧ i = .int .i64 j ∧ Chg No wf wr) (fun i _ => j0 - (intOf i).toNat)
              case atStart => exact ⟨0, Nat.zero_le _, rfl, Chg.refl No wf⟩
              case round =>
                obtain ⟨j, hj, rfl, hch⟩ := hrel
                have c1 := (hch.cellD _ _ hsb (fun e => e)).trans hsc
                have c2 := (hch.cellD _ _ hgb (fun e => e)).trans hgc
                have c3 := (hch.cellD _ _ hxb (fun e => e)).trans (HXC.out j (by omega))
                have hg3 := hgx.keep hch
                obtain ⟨y, hy⟩ : ∃ y, sl.getD j 0 = y := ⟨_, rfl⟩
                rw [hy] at c3
                have hjj0 : (0 : Int) ≤ (j : Int) := Int.natCast_nonneg _
                have hjj1 : (j : Int) < (sl.length : Int) := by omega
                have hjw : IntKind.i64.wrap ((j : Int) + 1) = (j : Int) + 1 := IntWalk.i64_in _ (by omega)
                by_cases hlt : j < j0
                · have hh : hasB gl y = true := by rw [← hy]; exact HY.out j hlt
                  clear hy
                  go_wp2_with fail
                  go_quiet ((go_at_call 19; exact quiet_sym (vHas_any No _ _ _ _ (by exact hg3.keep ((Chg.refl No wr).drewN _)))))
                  have kd2 := (Chg.refl No wr).drewN nq
                  have hch2 := hch.keep kd2
                  generalize wr.drewN nq = W2 at hch2 ⊢
                  clear c1 c2 c3
                  go_wp2_with fail
                  go_round
                  case rel => exact ⟨j + 1, by omega, by go_num, hch2⟩
                  case measure => simp [intOf]; omega
                · have hjj : j = j0 := by omega
                  have hh : hasB gl y = false := by rw [← hy, hjj]; exact HN.out
                  clear hy
                  subst hjj
                  go_wp2_with fail
                  go_quiet ((go_at_call 19; exact quiet_sym (vHas_any No _ _ _ _ (by exact hg3.keep ((Chg.refl No wr).drewN _)))))
                  have kd2 := (Chg.refl No wr).drewN nq
                  have hch2 := hch.keep kd2
                  generalize wr.drewN nq = W2 at hch2 ⊢
                  go_wp2_with fail
                  go_ret
                  exact ⟨rfl, kF.keep hch2⟩
    | some i =>
      obtain ⟨hask, hi5, hlt⟩ := anomV_some hanom
      have hff := HFL.out
      rw [hask, if_pos rfl] at hff
      have hfl : fl.length = 6 := by rw [← hff, bySizeTo_len]
      rw [hff] at hlt
      obtain ⟨fg, rfl, _, hfg, hfc1, _⟩ := hf3 (by omega)
      have hc1 := hfc1 i (by omega)
      have hc2 := hfc1 (i + 1) (by omega)
      obtain ⟨y, hy⟩ : ∃ y, fl.getD i 0 = y := ⟨_, rfl⟩
      obtain ⟨z, hz⟩ : ∃ z, fl.getD (i + 1) 0 = z := ⟨_, rfl⟩
      rw [hy, hz] at hlt
      rw [hy] at hc1
      rw [hz] at hc2
      have hyz : ¬ z ≤ y := by omega
      have hi0 : (0 : Int) ≤ (i : Int) := Int.natCast_nonneg _
      have hi1 : (i : Int) < (fl.length : Int) := by omega
      have hi2 : (0 : Int) ≤ (i : Int) + 1 := by omega
      have hi3 : (i : Int) + 1 < (fl.length : Int) := by omega
      have hw1 : IntKind.i64.wrap (i : Int) = (i : Int) := IntWalk.i64_in _ (by omega)
      have hw2 : IntKind.i64.wrap ((i : Int) + 1 - 1) = (i : Int) := (IntWalk.i64_in _ (by omega)).trans (by omega)
      clear hfc1 hf3 hy hz hff hlt
      simp only [oneUp]
      go_wp2_with fail
      go_quiet (fail)
      have kd := (Chg.refl No w10).drewN nq
      have hr := hr.keep kd
      have hr2 := hr2.keep kd
      have kk := kk10.keep kd
      generalize w10.drewN nq = W1 at kd hr hr2 kk ⊢
      go_wp2_with fail
      go_loopw [22] (fun i wr => i = .int .i64 1 ∧ wr = W1) (fun _ _ => 1)
      case atStart => exact ⟨rfl, rfl⟩
      case round =>
        obtain ⟨rfl, rfl⟩ := hrel
        go_wp2_with fail
        refine (implInclusionBreak_any m 1 k rv l wr hr).mono ?_
        rw [inclV_stack (.inl rfl)]
        rintro e wa ⟨_, _, rfl, rfl, rfl, ka⟩
        go_wp2_with fail
        refine (implInclusionBreak_any m 7 k rv l wa (hr.keep ka)).mono ?_
        rw [inclV_stack (.inr rfl)]
        rintro e wb ⟨_, _, rfl, rfl, rfl, kb⟩
        go_wp2_with fail
        refine (implAnomalyOf_any m2 1 rv2 l2 wb ((hr2.keep ka).keep kb)).mono ?_
        rw [anomV_stack (.inl rfl)]
        rintro e wc ⟨_, _, rfl, rfl, rfl, kc⟩
        go_wp2_with fail
        refine (implAnomalyOf_any m2 7 rv2 l2 wc (((hr2.keep ka).keep kb).keep kc)).mono ?_
        rw [anomV_stack (.inr rfl)]
        rintro e wd ⟨_, _, rfl, rfl, rfl, kd⟩
        have kD := (((kk.keep ka).keep kb).keep kc).keep kd
        have hrD := (((hr.keep ka).keep kb).keep kc).keep kd
        cases hincl : inclV m p k l with
        | none =>
          go_wp2_with fail
          go_ret
          exact ⟨rfl, kD⟩
        | some at_ =>
          simp only [idxOr0]
          obtain ⟨ha1, ha2, hil, hpf⟩ := inclV_some hincl
          obtain ⟨j0, hj0, hno, hyes⟩ := part_first _ _ hpf
          have hwk : IntKind.i64.wrap (k + 1) = k + 1 := by
            have h1 := ha1
            simp only [askedB, Bool.and_eq_true, inB_iff] at h1
            exact IntWalk.i64_in _ (by omega)
          obtain ⟨S, hS⟩ : ∃ S, pagesTo (newC p k) l l.length = S := ⟨_, rfl⟩
          obtain ⟨G, hG⟩ : ∃ G, pagesTo (newC p (k + 1)) l l.length = G := ⟨_, rfl⟩
          have hSl : S.length = l.length := by rw [← hS, pagesTo_len]
          have hGl : G.length = l.length := by rw [← hG, pagesTo_len]
          have hSS : (if askedB m p k l then pagesTo (newC p k) l l.length else []) = S := by rw [ha1, if_pos rfl]; exact hS
          have hGG : (if askedB m p (k + 1) l then pagesTo (newC p (k + 1)) l l.length else []) = G := by rw [ha2, if_pos rfl]; exact hG
          rw [hS] at hj0 hno hyes
          rw [hG] at hno hyes
          have HNO := Lib.hid hno
          have HYES := Lib.hid hyes
          have HS := Lib.hid hSS
          have HG := Lib.hid hGG
          have HH := Lib.hid (And.intro ha1 (And.intro ha2 hincl))
          clear hno hyes hpf hS hG hSS hGG ha1 ha2 hincl
          go_wp2_with fail
          refine (implContentsOf_any No m p k rv l wd hrD).mono ?_
          rw [HS.out]
          rintro e we ⟨sv, _, rfl, _, ⟨F1, os⟩, ke⟩
          go_wp2_with fail
          refine (implContentsOf_any No m p (k + 1) rv l we (hrD.keep ke)).mono ?_
          rw [HG.out]
          rintro e wf ⟨gv, _, rfl, _, ⟨F2, og⟩, kf⟩
          have kF := (kD.keep ke).keep kf
          have rs := (os.keep kf).readNo
          have rg := og.readNo
          obtain ⟨sa, sc, rfl, hs1, hs2, hsv⟩ := rs.view
          obtain ⟨ga, gc, rfl, hg1, hg2, hgv⟩ := rg.view
          obtain ⟨sb, so, sx, rfl, _, hsb, hsc, hsx⟩ := hsv at_ (by omega)
          obtain ⟨gb, go, gx, rfl, _, hgb, hgc, hgx⟩ := hgv at_ (by omega)
          obtain ⟨sl, hsl⟩ : ∃ sl, S.getD at_ [] = sl := ⟨_, rfl⟩
          obtain ⟨gl, hgl⟩ : ∃ gl, G.getD at_ [] = gl := ⟨_, rfl⟩
          rw [hsl] at hj0 hsx
          rw [hgl] at hgx
          have hno := HNO.out
          have hyes := HYES.out
          rw [hsl, hgl] at hno hyes
          obtain ⟨xa, xc, rfl, hx1, hx2, _, _, hxv⟩ := id hsx
          obtain ⟨xb, xo, rfl, _, hxb, hxc⟩ := hxv (by intro e; rw [e] at hj0; exact absurd hj0 (Nat.not_lt_zero _))
          have HXC := Lib.hid hxc
          have HN := Lib.hid hno
          have HY := Lib.hid hyes
          obtain ⟨gya, gyn, gyc, rfl⟩ := hgx.shape
          clear hxc hno hyes HNO HYES hsl hgl hsv hgv hxv os og
          have ht0 : (0 : Int) ≤ (at_ : Int) := Int.natCast_nonneg _
          have ht1 : (at_ : Int) < (S.length : Int) := by omega
          have ht2 : (at_ : Int) < (G.length : Int) := by omega
          go_wp2_with fail
          go_loopw [35] (fun i wr => ∃ j : Nat, j ≤ j0 ∧ i = .int .i64 j ∧ Chg No wf wr) (fun i _ => j0 - (intOf i).toNat)
          case atStart => exact ⟨0, Nat.zero_le _, rfl, Chg.refl No wf⟩
          case round =>
            obtain ⟨j, hj, rfl, hch⟩ := hrel
            have c1 := (hch.cellD _ _ hsb (fun e => e)).trans hsc
            have c2 := (hch.cellD _ _ hgb (fun e => e)).trans hgc
            have c3 := (hch.cellD _ _ hxb (fun e => e)).trans (HXC.out j (by omega))
            have hg3 := hgx.keep hch
            obtain ⟨y, hy⟩ : ∃ y, sl.getD j 0 = y := ⟨_, rfl⟩
            rw [hy] at c3
            have hjj0 : (0 : Int) ≤ (j : Int) := Int.natCast_nonneg _
            have hjj1 : (j : Int) < (sl.length : Int) := by omega
            have hjw : IntKind.i64.wrap ((j : Int) + 1) = (j : Int) + 1 := IntWalk.i64_in _ (by omega)
            by_cases hlt : j < j0
            · have hh : hasB gl y = true := by rw [← hy]; exact HY.out j hlt
              clear hy
              go_wp2_with fail
              go_quiet ((go_at_call 19; exact quiet_sym (vHas_any No _ _ _ _ (by exact hg3.keep ((Chg.refl No wr).drewN _)))))
              have kd2 := (Chg.refl No wr).drewN nq
              have hch2 := hch.keep kd2
              generalize wr.drewN nq = W2 at hch2 ⊢
              clear c1 c2 c3
              go_wp2_with fail
              go_round
              case rel => exact ⟨j + 1, by omega, by go_num, hch2⟩
              case measure => simp [intOf]; omega
            · have hjj : j = j0 := by omega
              have hh : hasB gl y = false := by rw [← hy, hjj]; exact HN.out
              clear hy
              subst hjj
              go_wp2_with fail
              go_quiet ((go_at_call 19; exact quiet_sym (vHas_any No _ _ _ _ (by exact hg3.keep ((Chg.refl No wr).drewN _)))))
              have kd2 := (Chg.refl No wr).drewN nq
              have hch2 := hch.keep kd2
              generalize wr.drewN nq = W2 at hch2 ⊢
              go_wp2_with fail
              go_ret
              exact ⟨rfl, kF.keep hch2⟩
end Go.Proofs.YtegipldajbkjfaaGreat
