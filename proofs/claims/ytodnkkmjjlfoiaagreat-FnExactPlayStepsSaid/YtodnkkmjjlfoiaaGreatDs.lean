import Derived.Test.YtodnkkmjjlfoiaaGreatDq
import Derived.Test.YtodnkkmjjlfoiaaGreatDr
/- FnExactPlaySteps: the law -/
namespace Go.Proofs.YtodnkkmjjlfoiaaGreat
open Go.RowKit

theorem plT_facts (t : To) (ss : List St3) : (plT t ss).ps.length ≤ 4 ∧ totPl (plT t ss).ps ≤ 100 ∧ (plT t ss).reqs.length ≤ 60 := by
  unfold plT
  cases h : tourB t
  · rw [if_neg (by simp)]; exact ⟨by simp [zeroT], by simp [zeroT, totPl], by simp [zeroT]⟩
  · rw [if_pos rfl]
    have hv := iterT_valid h (ss := ss) (playN t ss) (playN_spec t ss).2.1
    exact ⟨(tour_len hv).1, tour_tot hv, (tour_len hv).2.1⟩
set_option maxRecDepth 100000 in
set_option maxHeartbeats 16000000 in
theorem lawPlay_all (it : Int) (v : Value) (m : Nat) (pn mn : Nat → Nat) (ra : Option Addr) (rn rc : Nat) (sa : Option Addr) (sn sc : Nat) (w : World) (h : RawPS w v m pn mn) (hrn : rn ≤ 9223372036854775807) (hr : rn ≤ 17592186044416 → ∃ l : List Int, l.length = rn ∧ RI No w (.slice ra rn rc) l)
    (hsn : sn ≤ 9223372036854775807) (hs : sn ≤ 1048576 → ∃ ss : List St3, ss.length = sn ∧ RSS No w (.slice sa sn sc) ss) :
    Calls Tryz.prog 3 #[.agg #[.int .i64 it, v, .slice ra rn rc], .slice sa sn sc] w fun e w' => e = .returned (.bool true) ∧ Chg No w w' := by
  obtain ⟨pa, pc, rfl, hpc, hpc2, _⟩ := id h
  obtain ⟨k0, b0⟩ := box31 (w := w) (t := 25) (x0 := .int .i64 it) (x1 := .slice pa m pc) (x2 := .slice ra rn rc)
    (R := fun W => Chg No w W ∧ Box3 W w.heap.size (.int .i64 it) (.slice pa m pc) (.slice ra rn rc)) (fun W k b0 => ⟨k, b0⟩)
  have hP := h.keep k0
  obtain ⟨f, hf⟩ : ∃ f, (fun i => pn i + mn i) = f := ⟨_, rfl⟩
  obtain ⟨c0, c1, c2, _⟩ := id b0
  by_cases hfit : m + totN f m + rn ≤ 1048576
  · obtain ⟨L0, hL0⟩ : ∃ L0 : Int, L0 = 1048576 - m - totN f m - rn := ⟨_, rfl⟩
    have E1 : Hid (szTo m (fun i => pn i + mn i) rn 1048576 = L0) := Lib.hid (by rw [hf, hL0]; unfold szTo; rw [if_pos (by omega)])
    have hn1 : ¬ L0 < 0 := by omega
    have hn2 : 0 ≤ L0 ∧ L0 ≤ 1048576 := by omega
    obtain ⟨rq, hrl, hrq⟩ := hr (by omega)
    obtain ⟨ps, hpl, hps, hpt⟩ := h.readT (by omega) (by rw [hf]; omega)
    rw [hf] at hpt
    have hT : RT No w (.agg #[.int .i64 it, .slice pa m pc, .slice ra rn rc]) ⟨it, ps, rq⟩ := ⟨_, _, rfl, hps, hrq⟩
    have hpn : (⟨it, ps, rq⟩ : To).ps.length ≤ 1048576 := by show ps.length ≤ _; omega
    have hpt : (1 : Int) + totPl (⟨it, ps, rq⟩ : To).ps ≤ 100000000 := by show (1 : Int) + totPl ps ≤ _; omega
    have hrqn : (⟨it, ps, rq⟩ : To).reqs.length ≤ 1048576 := by show rq.length ≤ _; omega
    generalize (⟨it, ps, rq⟩ : To) = t at hT hpn hpt hrqn
    have HT := Lib.hid hT
    clear hfit h hr hf hrl hpl hrq hps hT hL0
    by_cases hfs : (sn : Int) ≤ L0
    · have E2 : Hid (szN sn L0 = L0 - sn) := Lib.hid (if_pos hfs)
      have hn3 : ¬ L0 - (sn : Int) < 0 := by omega
      obtain ⟨ss, hsl, hss⟩ := hs (by omega)
      subst hsl
      have HS := Lib.hid hss
      have hssn : ss.length ≤ 1048576 := by omega
      obtain ⟨ok, hok⟩ : ∃ ok, tourB t = ok := ⟨_, rfl⟩
      obtain ⟨tv, htv⟩ : ∃ tv, plT t ss = tv := ⟨_, rfl⟩
      obtain ⟨nv, hnv⟩ : ∃ nv, plN t ss = nv := ⟨_, rfl⟩
      have HO := Lib.hid (And.intro hok (And.intro hnv htv))
      have hfa := plT_facts t ss
      rw [htv] at hfa
      obtain ⟨htvn, htvt, htvr⟩ := hfa
      clear hss hok htv hnv hs hfs
      go_enter Tryz.func3, Tryz.ntmps3
      go_wp2_with fail
      refine (szTournament_any it _ m pn mn ra rn rc _ _ hP hrn (by omega) (by omega)).mono ?_
      rintro e w1 ⟨_, rfl, rfl, k1⟩
      rw [E1.out]
      replace b0 := b0.keep k1
      have kk := k0.keep k1
      clear c0 c1 c2 k1 k0 hP
      go_wp2_with fail
      refine (szTourStepS_any sa ss.length sc L0 w1 hsn (by omega) (by omega)).mono ?_
      rintro e w1' ⟨rfl, rfl⟩
      rw [E2.out]
      obtain ⟨c0, c1, c2, _⟩ := id b0
      go_wp2_with fail
      refine (toTournament_any _ t _ (HT.out.keep kk)).mono ?_
      rintro e w2 ⟨v2, rfl, r2, k2⟩
      clear c0 c1 c2
      replace kk := kk.keep k2
      replace b0 := b0.keep k2
      try replace b6 := b6.keep k2
      try replace hTU := hTU.keep k2
      try replace b9 := b9.keep k2
      try replace r4 := r4.keep k2
      try replace o10 := o10.keep k2
      try replace b11 := b11.keep k2
      try replace hTG := hTG.keep k2
      try replace r2 := r2.keep k2
      try replace hM := hM.keep k2
      clear k2
      go_wp2_with fail
      refine (toTourStepS_any _ ss _ (HS.out.keep kk)).mono ?_
      rintro e w3 ⟨v3, rfl, o3, k3⟩
      replace kk := kk.keep k3
      replace b0 := b0.keep k3
      try replace b6 := b6.keep k3
      try replace hTU := hTU.keep k3
      try replace b9 := b9.keep k3
      try replace r4 := r4.keep k3
      try replace o10 := o10.keep k3
      try replace b11 := b11.keep k3
      try replace hTG := hTG.keep k3
      try replace r2 := r2.keep k3
      try replace hM := hM.keep k3
      clear k3
      go_wp2_with fail
      refine (specPlay_any v2 v3 t ss w3 r2 (o3.read (fun _ _ e => e)) ok HO.out.1 nv HO.out.2.1 tv HO.out.2.2).mono ?_
      rintro e w4 ⟨v4, rfl, hTA, k4⟩
      have hTU := hTA.u
      clear hTA o3 r2
      obtain ⟨lo, hlo⟩ : ∃ lo, w3.heap.size = lo := ⟨_, rfl⟩
      have hMlo : w.heap.size < lo := by have := b0.lt; omega
      have hlh := k4.size
      rw [hlo] at hTU hlh
      replace kk := kk.keep k4
      replace b0 := b0.keep k4
      try replace b6 := b6.keep k4
      try replace hTU := hTU.keep k4
      try replace b9 := b9.keep k4
      try replace r4 := r4.keep k4
      try replace o10 := o10.keep k4
      try replace b11 := b11.keep k4
      try replace hTG := hTG.keep k4
      try replace r2 := r2.keep k4
      try replace hM := hM.keep k4
      clear k4 hlo
      obtain ⟨w1a, w1n, w1c, w2a, w2n, w2c, rfl⟩ := hTU.shape
      have b6 := Box3.new w4 (.int .i64 tv.items) (.slice w1a w1n w1c) (.slice w2a w2n w2c) 31
      have ka := (Chg.refl No w4).alloc (.cells #[.int .i64 tv.items, .slice w1a w1n w1c, .slice w2a w2n w2c] 31)
      replace kk := kk.keep ka
      replace b0 := b0.keep ka
      replace hTU := hTU.keep ka
      clear ka
      obtain ⟨c0, c1, c2, _⟩ := id b0
      go_wp2_with fail
      clear c0 c1 c2
      obtain ⟨B6, hB6⟩ : ∃ B6, w4.heap.size = B6 := ⟨_, rfl⟩
      rw [hB6] at b6 hlh hTU ⊢
      clear hB6
      generalize w4.alloc (.cells #[.int .i64 tv.items, .slice w1a w1n w1c, .slice w2a w2n w2c] 31) = W5 at kk b0 b6 hTU ⊢
      refine (toTournament_own _ t _ (HT.out.keep kk)).mono ?_
      rintro e w6 ⟨v6, rfl, ⟨g, pf, mf, rv, r4⟩, k6⟩
      obtain ⟨s5, hs5⟩ : ∃ s5, W5.heap.size = s5 := ⟨_, rfl⟩
      have hB6s : B6 < s5 := hs5 ▸ b6.lt
      have hsz6 := k6.size
      rw [hs5] at r4 hsz6
      clear hs5
      replace kk := kk.keep k6
      replace b0 := b0.keep k6
      replace b6 := b6.keep k6
      replace hTU := hTU.keep k6
      clear k6
      have hv6 := r4.1
      obtain ⟨ya, yn, yc, rfl⟩ := r4.2.2.1.shape
      obtain rfl := hv6
      have HIN0 := r4.inF
      have b9 := Box3.new w6 (.int .i64 t.items) (.slice (some ⟨g, 0, none⟩) t.ps.length t.ps.length) (.slice ya yn yc) 31
      have ka := (Chg.refl No w6).alloc (.cells #[.int .i64 t.items, .slice (some ⟨g, 0, none⟩) t.ps.length t.ps.length, .slice ya yn yc] 31)
      replace kk := kk.keep ka
      replace b0 := b0.keep ka
      replace b6 := b6.keep ka
      replace hTU := hTU.keep ka
      replace r4 := r4.keep ka
      clear ka
      go_wp2_with fail
      obtain ⟨B9, hB9⟩ : ∃ B9, w6.heap.size = B9 := ⟨_, rfl⟩
      rw [hB9] at b9 HIN0 hsz6 ⊢
      have HIN := Lib.hid HIN0
      clear hB9 HIN0
      generalize w6.alloc (.cells #[.int .i64 t.items, .slice (some ⟨g, 0, none⟩) t.ps.length t.ps.length, .slice ya yn yc] 31) = W7 at kk b0 b6 hTU r4 b9 ⊢
      refine (toTourStepS_any _ ss _ (HS.out.keep kk)).mono ?_
      rintro e w8 ⟨v10, rfl, o10, k8⟩
      obtain ⟨s10, hs10⟩ : ∃ s10, W7.heap.size = s10 := ⟨_, rfl⟩
      have hB9s : B9 < s10 := hs10 ▸ b9.lt
      rw [hs10] at o10
      have hsz8 := k8.size
      rw [hs10] at hsz8
      clear hs10
      replace kk := kk.keep k8
      replace b0 := b0.keep k8
      replace b6 := b6.keep k8
      replace hTU := hTU.keep k8
      replace r4 := r4.keep k8
      replace b9 := b9.keep k8
      clear k8
      obtain ⟨c0, c1, c2, _⟩ := id b9
      go_wp2_with fail
      clear c0 c1 c2
      refine (implPlay_any _ v10 t ss w8 (r4.rt hpn) (o10.read (fun _ _ e => e)) ok HO.out.1 nv HO.out.2.1 tv HO.out.2.2).mono ?_
      rintro e w9 ⟨v9, rfl, hTA, k9⟩
      have hTG := hTA.u
      clear hTA
      obtain ⟨lo9, hlo9⟩ : ∃ lo9, w8.heap.size = lo9 := ⟨_, rfl⟩
      have hlh9 := k9.size
      have HLT := Lib.hid o10.lt
      rw [hlo9] at hTG hlh9 HLT hsz8
      clear hlo9
      replace kk := kk.keep k9
      replace b0 := b0.keep k9
      replace b6 := b6.keep k9
      replace hTU := hTU.keep k9
      replace r4 := r4.keep k9
      replace b9 := b9.keep k9
      replace o10 := o10.keep k9
      clear k9
      obtain ⟨g1a, g1n, g1c, g2a, g2n, g2c, rfl⟩ := hTG.shape
      have b11 := Box3.new w9 (.int .i64 tv.items) (.slice g1a g1n g1c) (.slice g2a g2n g2c) 31
      have ka := (Chg.refl No w9).alloc (.cells #[.int .i64 tv.items, .slice g1a g1n g1c, .slice g2a g2n g2c] 31)
      replace kk := kk.keep ka
      replace b0 := b0.keep ka
      replace b6 := b6.keep ka
      replace hTU := hTU.keep ka
      replace r4 := r4.keep ka
      replace b9 := b9.keep ka
      replace o10 := o10.keep ka
      replace hTG := hTG.keep ka
      clear ka
      obtain ⟨c0, c1, c2, _⟩ := id b11
      obtain ⟨d0, d1, d2, _⟩ := id b6
      go_wp2_with fail
      clear c0 c1 c2 d0 d1 d2
      obtain ⟨B11, hB11⟩ : ∃ B11, w9.heap.size = B11 := ⟨_, rfl⟩
      rw [hB11] at b11 hTG hlh9 ⊢
      clear hB11
      generalize w9.alloc (.cells #[.int .i64 tv.items, .slice g1a g1n g1c, .slice g2a g2n g2c] 31) = WR at kk b0 b6 hTU r4 b9 o10 hTG b11 ⊢
      refine (eqTournament_same _ _ tv _ (hTG.rt (by omega)) (hTU.rt (by omega))).mono ?_
      rintro e w12 ⟨_, rfl, rfl, k12⟩
      replace kk := kk.keep k12
      replace b0 := b0.keep k12
      try replace b6 := b6.keep k12
      try replace hTU := hTU.keep k12
      try replace b9 := b9.keep k12
      try replace r4 := r4.keep k12
      try replace o10 := o10.keep k12
      try replace b11 := b11.keep k12
      try replace hTG := hTG.keep k12
      try replace r2 := r2.keep k12
      try replace hM := hM.keep k12
      clear k12
      go_wp2_with fail
      refine wp_region_K (S := fun W => W.cell? ⟨B9, 0, none⟩ = some (.int .i64 t.items) ∧ W.cell? ⟨B9, 1, none⟩ = some (.slice (some ⟨g, 0, none⟩) t.ps.length t.ps.length) ∧ W.cell? ⟨B9, 2, none⟩ = some (.slice ya yn yc) ∧ W.cell? ⟨w.heap.size, 0, none⟩ = some (.int .i64 it) ∧ W.cell? ⟨w.heap.size, 1, none⟩ = some (.slice pa m pc) ∧ W.cell? ⟨w.heap.size, 2, none⟩ = some (.slice ra rn rc)) (k := 3) (by kernel_rfl) ?_
      replace kk := kk.keep (drewN0 _)
      replace b0 := b0.keep (drewN0 _)
      try replace b6 := b6.keep (drewN0 _)
      try replace hTU := hTU.keep (drewN0 _)
      try replace b9 := b9.keep (drewN0 _)
      try replace r4 := r4.keep (drewN0 _)
      try replace o10 := o10.keep (drewN0 _)
      try replace b11 := b11.keep (drewN0 _)
      try replace hTG := hTG.keep (drewN0 _)
      try replace r2 := r2.keep (drewN0 _)
      try replace hM := hM.keep (drewN0 _)
      generalize w12.drew = WD at kk b0 b6 hTU r4 b9 o10 hTG b11 ⊢
      have hS : WD.cell? ⟨B9, 0, none⟩ = some (.int .i64 t.items) ∧ WD.cell? ⟨B9, 1, none⟩ = some (.slice (some ⟨g, 0, none⟩) t.ps.length t.ps.length) ∧ WD.cell? ⟨B9, 2, none⟩ = some (.slice ya yn yc) ∧ WD.cell? ⟨w.heap.size, 0, none⟩ = some (.int .i64 it) ∧ WD.cell? ⟨w.heap.size, 1, none⟩ = some (.slice pa m pc) ∧ WD.cell? ⟨w.heap.size, 2, none⟩ = some (.slice ra rn rc) := ⟨b9.c0, b9.c1, b9.c2, b0.c0, b0.c1, b0.c2⟩
      refine wpAnyK_takeT 0 (.agg #[.int .i64 t.items, .slice (some ⟨g, 0, none⟩) t.ps.length t.ps.length, .slice ya yn yc]) rfl (by kernel_rfl) (fun _ _ _ h => h) hS rfl (by intro w hSw; go_simp) ?_
      simp only [List.getElem_toArray, List.getElem_cons_zero, Act.put, List.setIfInBounds_toArray, List.set_cons_zero, List.set_cons_succ]
      refine wpAnyK_takeT 1 (.agg #[.int .i64 it, .slice pa m pc, .slice ra rn rc]) rfl (by kernel_rfl) (fun _ _ _ h => h) hS rfl (by intro w hSw; go_simp) ?_
      simp only [List.getElem_toArray, List.getElem_cons_succ, List.getElem_cons_zero, Act.put, List.setIfInBounds_toArray, List.set_cons_zero, List.set_cons_succ]
      refine wpAnyK_1 2 (by kernel_rfl) (wpOpK' rfl rfl ?_)
      intro K hK
      refine ocall (f := 9) (args := #[.agg #[.int .i64 it, .slice pa m pc, .slice ra rn rc]]) (by go_simp) (toTournament_any _ t WD (HT.out.keep kk)) (fun v13 w13 h1 => hK.out _ _ ⟨(b9.keep h1.2).c0, (b9.keep h1.2).c1, (b9.keep h1.2).c2, (b0.keep h1.2).c0, (b0.keep h1.2).c1, (b0.keep h1.2).c2⟩ ?_)
      obtain ⟨r13, k13⟩ := h1
      clear hK K hS
      simp only [List.getElem_toArray, List.getElem_cons_succ, List.getElem_cons_zero, Act.put, List.setIfInBounds_toArray, List.set_cons_zero, List.set_cons_succ]
      replace kk := kk.keep k13
      replace b0 := b0.keep k13
      try replace b6 := b6.keep k13
      try replace hTU := hTU.keep k13
      try replace b9 := b9.keep k13
      try replace r4 := r4.keep k13
      try replace o10 := o10.keep k13
      try replace b11 := b11.keep k13
      try replace hTG := hTG.keep k13
      try replace r2 := r2.keep k13
      try replace hM := hM.keep k13
      clear k13
      refine wpAnyK_tail 3 rfl (by kernel_rfl) ?_
      simp only [List.drop_succ_cons, List.drop_zero]
      go_wp2_with fail
      refine (eqTournament_same _ _ t w13 (r4.rt hpn) r13).mono ?_
      rintro e w14 ⟨_, rfl, rfl, k14⟩
      replace kk := kk.keep k14
      replace b0 := b0.keep k14
      try replace b6 := b6.keep k14
      try replace hTU := hTU.keep k14
      try replace b9 := b9.keep k14
      try replace r4 := r4.keep k14
      try replace o10 := o10.keep k14
      try replace b11 := b11.keep k14
      try replace hTG := hTG.keep k14
      try replace r2 := r2.keep k14
      try replace hM := hM.keep k14
      clear k14 r13
      go_wp2_with fail
      refine (toTourStepS_any _ ss _ (HS.out.keep kk)).mono ?_
      rintro e w15 ⟨v15, rfl, o15, k15⟩
      replace kk := kk.keep k15
      replace b0 := b0.keep k15
      try replace b6 := b6.keep k15
      try replace hTU := hTU.keep k15
      try replace b9 := b9.keep k15
      try replace r4 := r4.keep k15
      try replace o10 := o10.keep k15
      try replace b11 := b11.keep k15
      try replace hTG := hTG.keep k15
      try replace r2 := r2.keep k15
      try replace hM := hM.keep k15
      clear k15
      go_wp2_with fail
      refine (eqTourStepS_same v10 v15 ss w15 (o10.read (fun _ _ e => e)) (o15.read (fun _ _ e => e))).mono ?_
      rintro e w16 ⟨_, rfl, rfl, k16⟩
      replace kk := kk.keep k16
      replace b0 := b0.keep k16
      try replace b6 := b6.keep k16
      try replace hTU := hTU.keep k16
      try replace b9 := b9.keep k16
      try replace r4 := r4.keep k16
      try replace o10 := o10.keep k16
      try replace b11 := b11.keep k16
      try replace hTG := hTG.keep k16
      try replace r2 := r2.keep k16
      try replace hM := hM.keep k16
      clear k16 o15
      obtain ⟨c0, c1, c2, _⟩ := id b9
      go_wp2_with fail
      clear c0 c1 c2
      refine (markTournament_any _ _ t 1 w16 r4 hpn (by omega) hpt).mono ?_
      rintro e w17 ⟨_, rfl, rfl, _, k17⟩
      have hown : ∀ q, ownT g t.ps.length pf mf (.slice ya yn yc) q → s5 ≤ q ∧ q < B9 := fun q hq => HIN.out q hq
      replace kk := kk.step k17 (fun q e hl => by have := hown q e; omega)
      replace b0 := b0.step k17 (fun e => by have := hown _ e; omega)
      replace b6 := b6.step k17 (fun e => by have := hown _ e; omega)
      replace hTU := hTU.step k17 (fun q h1 h2 e => by have := hown q e; omega)
      replace b11 := b11.step k17 (fun e => by have := hown _ e; omega)
      replace hTG := hTG.step k17 (fun q h1 h2 e => by have := hown q e; omega)
      replace o10 := o10.step k17 (fun q hq e => by have := hown q e; have := (o10.lt q hq).1; omega)
      clear k17 r4 b9 hown
      obtain ⟨M1, hM1⟩ : ∃ M1 : Int, 1 + totPl t.ps + (t.reqs.length : Int) = M1 := ⟨_, rfl⟩
      have hM1b : 0 ≤ M1 ∧ M1 ≤ 200000000 := by omega
      rw [hM1]
      clear hM1
      go_wp2_with fail
      refine (markTourStepS_any _ v10 ss M1 w17 o10 hM1b.1 (by omega)).mono ?_
      rintro e w18 ⟨_, rfl, rfl, k18⟩
      have hown : ∀ q, own v10 q → s10 ≤ q ∧ q < lo9 := fun q hq => HLT.out q hq
      replace kk := kk.step k18 (fun q e hl => by have := hown q e; omega)
      replace b0 := b0.step k18 (fun e => by have := hown _ e; omega)
      replace b6 := b6.step k18 (fun e => by have := hown _ e; omega)
      replace hTU := hTU.step k18 (fun q h1 h2 e => by have := hown q e; omega)
      replace b11 := b11.step k18 (fun e => by have := hown _ e; omega)
      replace hTG := hTG.step k18 (fun q h1 h2 e => by have := hown q e; omega)
      clear k18 o10 hown
      have hneg : ¬ M1 + 3 * (ss.length : Int) < 0 := by omega
      obtain ⟨c0, c1, c2, _⟩ := id b11
      obtain ⟨d0, d1, d2, _⟩ := id b6
      go_wp2_with fail
      clear c0 c1 c2 d0 d1 d2
      refine (eqTournament_same _ _ tv w18 (hTG.rt (by omega)) (hTU.rt (by omega))).mono ?_
      rintro e w19 ⟨_, rfl, rfl, k19⟩
      replace kk := kk.keep k19
      replace b0 := b0.keep k19
      try replace b6 := b6.keep k19
      try replace hTU := hTU.keep k19
      try replace b9 := b9.keep k19
      try replace r4 := r4.keep k19
      try replace o10 := o10.keep k19
      try replace b11 := b11.keep k19
      try replace hTG := hTG.keep k19
      try replace r2 := r2.keep k19
      try replace hM := hM.keep k19
      clear k19
      obtain ⟨c0, c1, c2, _⟩ := id b11
      go_wp2_with fail
      clear hneg c0 c1 c2
      refine (markTAU_any lo9 B11 _ tv 1 w19 hTG (by omega) (by omega) (by omega)).mono ?_
      rintro e w20 ⟨_, rfl, rfl, hM, k20⟩
      replace kk := kk.step k20 (fun q e hl => by have := e.1; omega)
      replace b0 := b0.step k20 (fun e => by have := e.1; omega)
      replace b6 := b6.step k20 (fun e => by have := e.1; omega)
      replace hTU := hTU.step k20 (fun q h1 h2 e => by have := e.1; omega)
      replace b11 := b11.step k20 (fun e => by have := e.1; have := e.2; omega)
      clear k20 hTG
      have hnq : ¬ (1 : Int) + totPl tv.ps + tv.reqs.length < 0 := by omega
      have hk1 : (1 : Int) + totPl tv.ps ≤ 100000000 := by omega
      obtain ⟨c0, c1, c2, _⟩ := id b11
      go_wp2_with fail
      clear c0 c1 c2
      refine (heldTournament_any _ tv 1 w20 hM (by omega) hk1).mono ?_
      rintro e w21 ⟨_, rfl, rfl, k21⟩
      replace kk := kk.keep k21
      replace b0 := b0.keep k21
      try replace b6 := b6.keep k21
      try replace hTU := hTU.keep k21
      try replace b9 := b9.keep k21
      try replace r4 := r4.keep k21
      try replace o10 := o10.keep k21
      try replace b11 := b11.keep k21
      try replace hTG := hTG.keep k21
      try replace r2 := r2.keep k21
      try replace hM := hM.keep k21
      clear k21
      obtain ⟨c0, c1, c2, _⟩ := id b0
      go_wp2_with fail
      clear c0 c1 c2
      refine (toTournament_any _ t _ (HT.out.keep kk)).mono ?_
      rintro e w22 ⟨v22, rfl, r2, k22⟩
      replace kk := kk.keep k22
      replace b0 := b0.keep k22
      try replace b6 := b6.keep k22
      try replace hTU := hTU.keep k22
      try replace b9 := b9.keep k22
      try replace r4 := r4.keep k22
      try replace o10 := o10.keep k22
      try replace b11 := b11.keep k22
      try replace hTG := hTG.keep k22
      try replace r2 := r2.keep k22
      try replace hM := hM.keep k22
      clear k22
      go_wp2_with fail
      refine (toTourStepS_any _ ss _ (HS.out.keep kk)).mono ?_
      rintro e w23 ⟨v23, rfl, o23, k23⟩
      replace kk := kk.keep k23
      replace b0 := b0.keep k23
      try replace b6 := b6.keep k23
      try replace hTU := hTU.keep k23
      try replace b9 := b9.keep k23
      try replace r4 := r4.keep k23
      try replace o10 := o10.keep k23
      try replace b11 := b11.keep k23
      try replace hTG := hTG.keep k23
      try replace r2 := r2.keep k23
      try replace hM := hM.keep k23
      clear k23
      go_wp2_with fail
      refine (implPlay_any v22 v23 t ss w23 r2 (o23.read (fun _ _ e => e)) ok HO.out.1 nv HO.out.2.1 tv HO.out.2.2).mono ?_
      rintro e w24 ⟨v24, rfl, hTA, k24⟩
      have hTH := hTA.u
      clear hTA o23 r2
      replace kk := kk.keep k24
      replace b0 := b0.keep k24
      try replace b6 := b6.keep k24
      try replace hTU := hTU.keep k24
      try replace b9 := b9.keep k24
      try replace r4 := r4.keep k24
      try replace o10 := o10.keep k24
      try replace b11 := b11.keep k24
      try replace hTG := hTG.keep k24
      try replace r2 := r2.keep k24
      try replace hM := hM.keep k24
      clear k24
      obtain ⟨h1a, h1n, h1c, h2a, h2n, h2c, rfl⟩ := hTH.shape
      have b17 := Box3.new w24 (.int .i64 tv.items) (.slice h1a h1n h1c) (.slice h2a h2n h2c) 31
      have ka := (Chg.refl No w24).alloc (.cells #[.int .i64 tv.items, .slice h1a h1n h1c, .slice h2a h2n h2c] 31)
      replace hTH := hTH.keep ka
      replace kk := kk.keep ka
      replace b0 := b0.keep ka
      try replace b6 := b6.keep ka
      try replace hTU := hTU.keep ka
      try replace b9 := b9.keep ka
      try replace r4 := r4.keep ka
      try replace o10 := o10.keep ka
      try replace b11 := b11.keep ka
      try replace hTG := hTG.keep ka
      try replace r2 := r2.keep ka
      try replace hM := hM.keep ka
      clear ka
      obtain ⟨c0, c1, c2, _⟩ := id b17
      obtain ⟨d0, d1, d2, _⟩ := id b6
      go_wp2_with fail
      clear c0 c1 c2 d0 d1 d2
      generalize w24.alloc (.cells #[.int .i64 tv.items, .slice h1a h1n h1c, .slice h2a h2n h2c] 31) = WS at kk hTU b11 hTH hM ⊢
      refine (eqTournament_same _ _ tv _ (hTH.rt (by omega)) (hTU.rt (by omega))).mono ?_
      rintro e w25 ⟨_, rfl, rfl, k25⟩
      replace kk := kk.keep k25
      replace b11 := b11.keep k25
      replace hM := hM.keep k25
      clear k25
      obtain ⟨c0, c1, c2, _⟩ := id b11
      go_wp2_with fail
      clear c0 c1 c2
      refine (heldTournament_any _ tv 1 w25 hM (by omega) hk1).mono ?_
      rintro e w26 ⟨_, rfl, rfl, k26⟩
      replace kk := kk.keep k26
      go_wp2_with fail
      go_ret
      exact ⟨rfl, kk⟩
    · have E2 : Hid (szN sn L0 = -1) := Lib.hid (if_neg hfs)
      go_enter Tryz.func3, Tryz.ntmps3
      go_wp2_with fail
      refine (szTournament_any it _ m pn mn ra rn rc _ _ hP hrn (by omega) (by omega)).mono ?_
      rintro e w1 ⟨_, rfl, rfl, k1⟩
      rw [E1.out]
      go_wp2_with fail
      refine (szTourStepS_any sa sn sc L0 w1 hsn (by omega) (by omega)).mono ?_
      rintro e w1' ⟨rfl, rfl⟩
      rw [E2.out]
      go_wp2_with fail
      go_ret
      exact ⟨rfl, k0.keep k1⟩
  · have E1 : Hid (szTo m (fun i => pn i + mn i) rn 1048576 = -1) := Lib.hid (by rw [hf]; unfold szTo; rw [if_neg (by omega)])
    clear hfit h hr hf
    go_enter Tryz.func3, Tryz.ntmps3
    go_wp2_with fail
    refine (szTournament_any it _ m pn mn ra rn rc _ _ hP hrn (by omega) (by omega)).mono ?_
    rintro e w1 ⟨_, rfl, rfl, k1⟩
    rw [E1.out]
    go_wp2_with fail
    go_ret
    exact ⟨rfl, k0.keep k1⟩
end Go.Proofs.YtodnkkmjjlfoiaaGreat
