import Derived.Test.YtndhijckbponkaaPm
/- BestReply, both sides -/
namespace Go.Proofs.Ytndhijckbponkaa
open Go.RowKit

noncomputable def repB (p : Pr) (s : Int) (qs : List (List Int)) (ws seen : List Int) : Bool := drawB p s qs ws && (decide (¬ seen.length = 0) && decide (¬ wS (qs.zip ws) seen = 0))
def repI (p : Pr) (S : Nat) (qs : List (List Int)) (ws seen : List Int) : Int := ((bl (okA p (seen.getD (seen.length - 1) 0).toNat) (aF p (qs.zip ws) ((qs.getD 0 []).length - seen.length) S (seen.getD (seen.length - 1) 0).toNat seen) p.mv.length).1 : Int)
noncomputable def repV (p : Pr) (s : Int) (qs : List (List Int)) (ws seen : List Int) : Int := if repB p s qs ws seen then repI p s.toNat qs ws seen else 0
theorem drawB_facts {p : Pr} {s : Int} {qs : List (List Int)} {ws : List Int} (h : drawB p s qs ws = true) : PrP p ∧ ChP p.sv.length 12 6 qs ws ∧ 0 ≤ s ∧ s < (p.mv.length : Int) := by
  unfold drawB chaB at h
  rw [Bool.and_eq_true, Bool.and_eq_true] at h
  have h3 := inB_iff.1 h.2
  exact ⟨bP_iff.1 h.1.1, bP_iff.1 h.1.2, h3.1, by omega⟩
theorem wS_in {k L : Nat} : ∀ {cs : Chs} {seen : List Int}, ChB k L cs → ¬ wS cs seen = 0 → 0 < seen.length → seen.length ≤ L ∧ ∃ r : Nat, r < k ∧ seen.getD (seen.length - 1) 0 = (r : Int)
  | [], _, _, h, _ => absurd rfl h
  | (q, w) :: cs, seen, hc, h, h0 => by
    by_cases hp : seen.isPrefixOf q = true
    · obtain ⟨h1, h2, _⟩ := hc (q, w) (List.mem_cons_self ..)
      simp only at h1 h2
      obtain ⟨t, ht⟩ := List.isPrefixOf_iff_prefix.1 hp
      have hl : seen.length ≤ L := by rw [← h1, ← ht, List.length_append]; omega
      have hm : seen.getD (seen.length - 1) 0 ∈ q := by
        rw [List.getD_eq_getElem?_getD, List.getElem?_eq_getElem (by omega : seen.length - 1 < seen.length), ← ht]
        exact List.mem_append_left _ (List.getElem_mem _)
      obtain ⟨h3, h4⟩ := h2 _ hm
      exact ⟨hl, (seen.getD (seen.length - 1) 0).toNat, by omega, by omega⟩
    · have hp' : seen.isPrefixOf q = false := by
        cases e : seen.isPrefixOf q
        · rfl
        · exact absurd e hp
      rw [wS, hp', if_neg Bool.false_ne_true, Int.zero_add] at h
      exact wS_in (fun x hx => hc x (List.mem_cons_of_mem _ hx)) h h0
set_option maxRecDepth 100000 in
set_option maxHeartbeats 2000000 in
theorem specBestReply_any (A B : Nat → Prop) (v cv sv : Value) (p : Pr) (s : Int) (qs : List (List Int)) (ws seen : List Int) (w : World) (hp : RPr A w v p) (hc : RCh A w cv qs ws) (hs : RI B w sv seen) :
    Calls Try.prog 10 #[v, .int .i64 s, cv, sv] w (Ret2 fun r0 r1 w' => r0 = .int .i64 (repV p s qs ws seen) ∧ r1 = .bool (repB p s qs ws seen) ∧ Chg No w w') := by
  have hv := hp
  have hcv := hc
  obtain ⟨mv, sv', rfl, hm, hsv⟩ := hp
  obtain ⟨wv, qv, rfl, hw, hq⟩ := hc
  obtain ⟨ma, mc, rfl⟩ := hm.shape
  obtain ⟨sa, sc, rfl⟩ := hsv.shape
  obtain ⟨qa, qc, rfl⟩ := hq.shape
  obtain ⟨wa, wc, rfl, _⟩ := id hw
  obtain ⟨oa, oc, rfl, _⟩ := id hs
  cases hd : drawB p s qs ws
  · have HB : Hid (repB p s qs ws seen = false) := Lib.hid (by unfold repB; rw [hd]; rfl)
    have HV : Hid (repV p s qs ws seen = 0) := Lib.hid (by unfold repV; rw [HB.out]; rfl)
    have HD := Lib.hid hd
    clear hd
    go_enter Try.func10, Try.ntmps10
    go_wp2_with fail
    refine bx2 (R := fun W => Calls _ _ _ W _) (fun W0 k0 b0 b1 => ?_)
    refine (l11Start_any _ _ _ p s qs ws W0 (hv.keep k0) (hcv.keep k0)).mono ?_
    rintro e w1 ⟨_, rfl, rfl, k1⟩
    rw [HD.out]
    go_wp2_with fail
    go_ret2
    exact ⟨_, _, rfl, by rw [HV.out]; rfl, by rw [HB.out]; rfl, k0.keep k1⟩
  · obtain ⟨hpp, hcc, hs0, hs1⟩ := drawB_facts hd
    have g := Gd.of hpp hcc
    have HD := Lib.hid hd
    by_cases hne : seen.length = 0
    · have HB : Hid (repB p s qs ws seen = false) := Lib.hid (by unfold repB; rw [hne]; simp)
      have HV : Hid (repV p s qs ws seen = 0) := Lib.hid (by unfold repV; rw [HB.out]; rfl)
      rw [hne] at hs ⊢
      clear hd
      go_enter Try.func10, Try.ntmps10
      go_wp2_with fail
      refine bx2 (R := fun W => Calls _ _ _ W _) (fun W0 k0 b0 b1 => ?_)
      refine (l11Start_any _ _ _ p s qs ws W0 (hv.keep k0) (hcv.keep k0)).mono ?_
      rintro e w1 ⟨_, rfl, rfl, k1⟩
      rw [HD.out]
      go_wp2_with fail
      go_ret2
      exact ⟨_, _, rfl, by rw [HV.out]; rfl, by rw [HB.out]; rfl, k0.keep k1⟩
    · have hnb : ((seen.length : Int) == 0) = false := beq_eq_false_iff_ne.2 (by omega)
      by_cases hw0 : wS (qs.zip ws) seen = 0
      · have HB : Hid (repB p s qs ws seen = false) := Lib.hid (by unfold repB; rw [hw0]; simp)
        have HV : Hid (repV p s qs ws seen = 0) := Lib.hid (by unfold repV; rw [HB.out]; rfl)
        have HW := Lib.hid hw0
        clear hd hw0
        go_enter Try.func10, Try.ntmps10
        go_wp2_with fail
        refine bx2 (R := fun W => Calls _ _ _ W _) (fun W0 k0 b0 b1 => ?_)
        refine (l11Start_any _ _ _ p s qs ws W0 (hv.keep k0) (hcv.keep k0)).mono ?_
        rintro e w1 ⟨_, rfl, rfl, k1⟩
        rw [HD.out]
        have kk := k0.keep k1
        have b1 := b1.keep k1
        have g2 := b1.c 0 _ rfl
        have g3 := b1.c 1 _ rfl
        go_wp2_with fail
        refine (l11Weight_any _ _ _ _ qs ws seen w1 (hcv.keep kk) (hs.keep kk) g.len g.w9 (by have := g.q0; omega)).mono ?_
        rintro e w2 ⟨_, rfl, rfl, k2⟩
        rw [HW.out]
        go_wp2_with fail
        go_ret2
        exact ⟨_, _, rfl, by rw [HV.out]; rfl, by rw [HB.out]; rfl, kk.keep k2⟩
      · have HB : Hid (repB p s qs ws seen = true) := Lib.hid (by
          unfold repB
          rw [hd, decide_eq_true hne, decide_eq_true hw0]; rfl)
        have HV : Hid (repV p s qs ws seen = repI p s.toNat qs ws seen) := Lib.hid (by unfold repV; rw [HB.out]; rfl)
        obtain ⟨S, rfl⟩ : ∃ S : Nat, s = (S : Int) := ⟨s.toNat, by omega⟩
        rw [Int.toNat_natCast] at HV
        obtain ⟨hl, r, hr, hlast⟩ := wS_in g.cb hw0 (by omega)
        have HVV : Hid (repV p (S : Int) qs ws seen = ((bl (okA p r) (aF p (qs.zip ws) ((qs.getD 0 []).length - seen.length) S r seen) p.mv.length).1 : Int)) := Lib.hid (by
          rw [HV.out]; unfold repI; rw [hlast, Int.toNat_natCast])
        have hwn : ((wS (qs.zip ws) seen) == 0) = false := beq_eq_false_iff_ne.2 hw0
        obtain ⟨wt, hwt⟩ : ∃ wt, wS (qs.zip ws) seen = wt := ⟨_, rfl⟩
        rw [hwt] at hwn
        have HWT := Lib.hid hwt
        clear hd hw0 hwt HV
        go_enter Try.func10, Try.ntmps10
        go_wp2_with fail
        refine bx2 (R := fun W => Calls _ _ _ W _) (fun W0 k0 b0 b1 => ?_)
        refine (l11Start_any _ _ _ p (S : Int) qs ws W0 (hv.keep k0) (hcv.keep k0)).mono ?_
        rintro e w1 ⟨_, rfl, rfl, k1⟩
        rw [HD.out]
        have kk := k0.keep k1
        have b0 := b0.keep k1
        have b1 := b1.keep k1
        have g2 := b1.c 0 _ rfl
        have g3 := b1.c 1 _ rfl
        go_wp2_with fail
        refine (l11Weight_any _ _ _ _ qs ws seen w1 (hcv.keep kk) (hs.keep kk) g.len g.w9 (by have := g.q0; omega)).mono ?_
        rintro e w2 ⟨_, rfl, rfl, k2⟩
        rw [HWT.out]
        have kk := kk.keep k2
        have b0 := b0.keep k2
        have b1 := b1.keep k2
        have g0 := b0.c 0 _ rfl
        have g1 := b0.c 1 _ rfl
        have g2 := b1.c 0 _ rfl
        have g3 := b1.c 1 _ rfl
        go_wp2_with fail
        refine ((sAll g ((qs.getD 0 []).length - seen.length)).2 A B _ _ _ S r seen w2 (hv.keep kk) (hcv.keep kk) (hs.keep kk) (by omega) hr (by omega) (by omega) hlast).mono ?_
        rintro e w3 ⟨_, _, rfl, rfl, rfl, k3⟩
        rw [← HVV.out]
        clear g0 g1 g2 g3
        go_wp2_with fail
        go_ret2
        exact ⟨_, _, rfl, rfl, by rw [HB.out]; rfl, kk.keep k3⟩
set_option maxRecDepth 100000 in
set_option maxHeartbeats 2000000 in
theorem implBestReply_any (A B : Nat → Prop) (v cv sv : Value) (p : Pr) (s : Int) (qs : List (List Int)) (ws seen : List Int) (w : World) (hp : RPr A w v p) (hc : RCh A w cv qs ws) (hs : RI B w sv seen) :
    Calls Try.prog 14 #[v, .int .i64 s, cv, sv] w (Ret2 fun r0 r1 w' => r0 = .int .i64 (repV p s qs ws seen) ∧ r1 = .bool (repB p s qs ws seen) ∧ Chg No w w') := by
  have hv := hp
  have hcv := hc
  obtain ⟨mv, sv', rfl, hm, hsv⟩ := hp
  obtain ⟨wv, qv, rfl, hw, hq⟩ := hc
  obtain ⟨ma, mc, rfl⟩ := hm.shape
  obtain ⟨sa, sc, rfl⟩ := hsv.shape
  obtain ⟨qa, qc, rfl⟩ := hq.shape
  obtain ⟨wa, wc, rfl, _⟩ := id hw
  obtain ⟨oa, oc, rfl, _⟩ := id hs
  cases hd : drawB p s qs ws
  · have HB : Hid (repB p s qs ws seen = false) := Lib.hid (by unfold repB; rw [hd]; rfl)
    have HV : Hid (repV p s qs ws seen = 0) := Lib.hid (by unfold repV; rw [HB.out]; rfl)
    have HD := Lib.hid hd
    clear hd
    go_enter Try.func14, Try.ntmps14
    go_wp2_with fail
    refine bx2 (R := fun W => Calls _ _ _ W _) (fun W0 k0 b0 b1 => ?_)
    refine (isDrawn_any _ _ _ p s qs ws W0 (hv.keep k0) (hcv.keep k0)).mono ?_
    rintro e w1 ⟨_, rfl, rfl, k1⟩
    rw [HD.out]
    go_wp2_with fail
    go_ret2
    exact ⟨_, _, rfl, by rw [HV.out]; rfl, by rw [HB.out]; rfl, k0.keep k1⟩
  · obtain ⟨hpp, hcc, hs0, hs1⟩ := drawB_facts hd
    have g := Gd.of hpp hcc
    have HD := Lib.hid hd
    by_cases hne : seen.length = 0
    · have HB : Hid (repB p s qs ws seen = false) := Lib.hid (by unfold repB; rw [hne]; simp)
      have HV : Hid (repV p s qs ws seen = 0) := Lib.hid (by unfold repV; rw [HB.out]; rfl)
      rw [hne] at hs ⊢
      clear hd
      go_enter Try.func14, Try.ntmps14
      go_wp2_with fail
      refine bx2 (R := fun W => Calls _ _ _ W _) (fun W0 k0 b0 b1 => ?_)
      refine (isDrawn_any _ _ _ p s qs ws W0 (hv.keep k0) (hcv.keep k0)).mono ?_
      rintro e w1 ⟨_, rfl, rfl, k1⟩
      rw [HD.out]
      go_wp2_with fail
      go_ret2
      exact ⟨_, _, rfl, by rw [HV.out]; rfl, by rw [HB.out]; rfl, k0.keep k1⟩
    · have hnb : ((seen.length : Int) == 0) = false := beq_eq_false_iff_ne.2 (by omega)
      by_cases hw0 : wS (qs.zip ws) seen = 0
      · have HB : Hid (repB p s qs ws seen = false) := Lib.hid (by unfold repB; rw [hw0]; simp)
        have HV : Hid (repV p s qs ws seen = 0) := Lib.hid (by unfold repV; rw [HB.out]; rfl)
        have HW := Lib.hid hw0
        clear hd hw0
        go_enter Try.func14, Try.ntmps14
        go_wp2_with fail
        refine bx2 (R := fun W => Calls _ _ _ W _) (fun W0 k0 b0 b1 => ?_)
        refine (isDrawn_any _ _ _ p s qs ws W0 (hv.keep k0) (hcv.keep k0)).mono ?_
        rintro e w1 ⟨_, rfl, rfl, k1⟩
        rw [HD.out]
        have kk := k0.keep k1
        have b1 := b1.keep k1
        have g2 := b1.c 0 _ rfl
        have g3 := b1.c 1 _ rfl
        go_wp2_with fail
        refine (beginning_any _ _ _ _ qs ws seen w1 (hcv.keep kk) (hs.keep kk) g.len g.w9 (by have := g.q0; omega)).mono ?_
        rintro e w2 ⟨_, rfl, rfl, k2⟩
        rw [HW.out]
        go_wp2_with fail
        go_ret2
        exact ⟨_, _, rfl, by rw [HV.out]; rfl, by rw [HB.out]; rfl, kk.keep k2⟩
      · have HB : Hid (repB p s qs ws seen = true) := Lib.hid (by
          unfold repB
          rw [hd, decide_eq_true hne, decide_eq_true hw0]; rfl)
        have HV : Hid (repV p s qs ws seen = repI p s.toNat qs ws seen) := Lib.hid (by unfold repV; rw [HB.out]; rfl)
        obtain ⟨S, rfl⟩ : ∃ S : Nat, s = (S : Int) := ⟨s.toNat, by omega⟩
        rw [Int.toNat_natCast] at HV
        obtain ⟨hl, r, hr, hlast⟩ := wS_in g.cb hw0 (by omega)
        have HVV : Hid (repV p (S : Int) qs ws seen = ((bl (okA p r) (aF p (qs.zip ws) ((qs.getD 0 []).length - seen.length) S r seen) p.mv.length).1 : Int)) := Lib.hid (by
          rw [HV.out]; unfold repI; rw [hlast, Int.toNat_natCast])
        have hwn : ((wS (qs.zip ws) seen) == 0) = false := beq_eq_false_iff_ne.2 hw0
        obtain ⟨wt, hwt⟩ : ∃ wt, wS (qs.zip ws) seen = wt := ⟨_, rfl⟩
        rw [hwt] at hwn
        have HWT := Lib.hid hwt
        clear hd hw0 hwt HV
        go_enter Try.func14, Try.ntmps14
        go_wp2_with fail
        refine bx2 (R := fun W => Calls _ _ _ W _) (fun W0 k0 b0 b1 => ?_)
        refine (isDrawn_any _ _ _ p (S : Int) qs ws W0 (hv.keep k0) (hcv.keep k0)).mono ?_
        rintro e w1 ⟨_, rfl, rfl, k1⟩
        rw [HD.out]
        have kk := k0.keep k1
        have b0 := b0.keep k1
        have b1 := b1.keep k1
        have g2 := b1.c 0 _ rfl
        have g3 := b1.c 1 _ rfl
        go_wp2_with fail
        refine (beginning_any _ _ _ _ qs ws seen w1 (hcv.keep kk) (hs.keep kk) g.len g.w9 (by have := g.q0; omega)).mono ?_
        rintro e w2 ⟨_, rfl, rfl, k2⟩
        rw [HWT.out]
        have kk := kk.keep k2
        have b0 := b0.keep k2
        have b1 := b1.keep k2
        have g0 := b0.c 0 _ rfl
        have g1 := b0.c 1 _ rfl
        have g2 := b1.c 0 _ rfl
        have g3 := b1.c 1 _ rfl
        go_wp2_with fail
        refine ((iAll g ((qs.getD 0 []).length - seen.length)).2 A B _ _ _ S r seen w2 (hv.keep kk) (hcv.keep kk) (hs.keep kk) (by omega) hr (by omega) (by omega) hlast).mono ?_
        rintro e w3 ⟨_, _, rfl, rfl, rfl, k3⟩
        rw [← HVV.out]
        clear g0 g1 g2 g3
        go_wp2_with fail
        go_ret2
        exact ⟨_, _, rfl, rfl, by rw [HB.out]; rfl, kk.keep k3⟩
end Go.Proofs.Ytndhijckbponkaa
