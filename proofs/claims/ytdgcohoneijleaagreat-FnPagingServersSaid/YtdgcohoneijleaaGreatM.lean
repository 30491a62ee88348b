import Derived.Test.YtdgcohoneijleaaGreatL
namespace Go.Proofs.YtdgcohoneijleaaGreat
open Go.RowKit

theorem erase_last (l : List Int) (h : 0 < l.length) : l.eraseIdx (l.length - 1) = l.take (l.length - 1) := by
  rw [List.eraseIdx_eq_take_drop_succ, List.drop_eq_nil_of_le (by omega), List.append_nil]

set_option maxRecDepth 100000 in
set_option maxHeartbeats 1000000 in
theorem takeOut_12 (base b : Nat) (p k : Int) (ps ms : List Int) (hd : Int) (pv mv : Value) (w : World) (h : MC base w b ⟨p, k, ps, ms, hd⟩ pv mv) (hpp : p = 1 ∨ p = 2) (hl : 0 < ps.length) :
    Calls Tryz.prog 62 #[.pointer (some ⟨b, 0, none⟩)] w (Ret fun v' w' => v' = .tuple #[] ∧ After base w b pv mv (outC ⟨p, k, ps, ms, hd⟩) w') := by
  have e : outC ⟨p, k, ps, ms, hd⟩ = ⟨p, k, ps.take (ps.length - 1), ms, hd⟩ := by
    unfold outC victim
    simp only
    rw [if_neg (by omega), if_neg (by omega), if_neg (by omega), if_neg (by omega), if_neg (by omega), erase_last ps hl]
  rw [e]; clear e
  obtain ⟨hbox, hp, hm, hap, hd2, hd3⟩ := h
  simp only at hbox hp hm
  have hL := hp.len
  obtain ⟨a, cap, hpv, hcap, _, hvw⟩ := hp.view
  obtain ⟨g, ha, hg1, hg2, hcell, hfr⟩ := hvw (by omega)
  subst ha
  subst hpv
  obtain ⟨ma, mn, mc, rfl⟩ := hm.shape
  clear hcell hfr hvw
  have hpre := hp.pre (ps.length - 1) (by omega)
  have hN : ((ps.length - 1 : Nat) : Int) = (ps.length : Int) - 1 := by omega
  have HN := Lib.hid hN
  clear hN
  have hsl : ∀ w' : World, (Instr.slice 25 (.slice (some ⟨g, 0, none⟩) ps.length cap) none (some (.int .i64 ((ps.length : Int) - 1))) none).run Tryz.prog w' = .ok (.slice (some ⟨g, 0, none⟩) (ps.length - 1) cap) w' := by
    intro w'
    rw [← HN.out, run_slice_h w' 25 _ ps.length cap und_el .i64 _ (by omega) (by omega), run_sz]
    simp [Result.andThen, sliced, Addr.add]
  obtain ⟨c0, c1, c2, c3, c4, hf⟩ := id hbox
  have hf2 := hf 2
  rcases hpp with rfl | rfl
  all_goals
    go_enter Tryz.func62, Tryz.ntmps62
    go_wp2
    go_end0
    refine ⟨_, rfl, rfl, _, _, ⟨hbox.set2 _, hpre.set b 2 _ (fun hq => hd2 (own_slice.2 (own_slice.1 hq))), hm.set b 2 _ hd3, fun q hq => hap q (own_slice.2 (own_slice.1 hq)), fun hq => hd2 (own_slice.2 (own_slice.1 hq)), hd3⟩, (Chg.refl _ w).setCell (fun _ => .inl rfl) _, ?_⟩
    intro q hq
    rcases hq with rfl | hq | hq
    · exact .inl (.inl rfl)
    · exact .inl (.inr (.inl (own_slice.2 (own_slice.1 hq))))
    · exact .inl (.inr (.inr hq))

set_option maxRecDepth 100000 in
set_option maxHeartbeats 1000000 in
theorem takeOut_37 (base b : Nat) (p k : Int) (ps ms : List Int) (hd : Int) (pv mv : Value) (w : World) (h : MC base w b ⟨p, k, ps, ms, hd⟩ pv mv) (hpp : p = 3 ∨ p = 7) (hl : 0 < ps.length) :
    Calls Tryz.prog 62 #[.pointer (some ⟨b, 0, none⟩)] w (Ret fun v' w' => v' = .tuple #[] ∧ After base w b pv mv (outC ⟨p, k, ps, ms, hd⟩) w') := by
  have e : outC ⟨p, k, ps, ms, hd⟩ = ⟨p, k, ps.eraseIdx 0, ms, hd⟩ := by
    rcases hpp with rfl | rfl <;> simp [outC, victim]
  rw [e]; clear e
  obtain ⟨hbox, hp, hm, hap, hd2, hd3⟩ := h
  simp only at hbox hp hm
  obtain ⟨a, pn, cap, rfl⟩ := hp.shape
  obtain ⟨ma, mn, mc, rfl⟩ := hm.shape
  obtain ⟨c0, c1, c2, c3, c4, hf⟩ := id hbox
  have hpn : 0 < pn := by have := hp.readNo.n; omega
  rcases hpp with rfl | rfl
  all_goals
    go_enter Tryz.func62, Tryz.ntmps62
    go_wp2_with fail
    refine (Delete1_any base _ ps 0 1 w hp hl rfl).mono ?_
    rintro e w1 ⟨v1, rfl, h1, hc1, ho1⟩
    obtain ⟨a1, n1, cc1, rfl⟩ := h1.shape
    have hbox1 := hbox.step hc1 hd2
    have hm1 := hm.step hc1 (fun q hq hq' => hap q hq' hq)
    have g2 := hbox1.c2
    have f2 := hbox1.fr 2
    go_wp2_with fail
    go_end0
    refine ⟨_, rfl, rfl, _, _, ⟨hbox1.set2 _, h1.set b 2 _ (fun hq => hd2 (ho1 b hq)), hm1.set b 2 _ hd3, fun q hq => hap q (ho1 q hq), fun hq => hd2 (ho1 b hq), hd3⟩, ((Chg.refl _ w).step hc1 (fun q hq _ => .inr (.inl hq))).setCell (fun _ => .inl rfl) _, ?_⟩
    intro q hq
    rcases hq with rfl | hq | hq
    · exact .inl (.inl rfl)
    · exact .inl (.inr (.inl (ho1 q hq)))
    · exact .inl (.inr (.inr hq))

set_option maxRecDepth 100000 in
set_option maxHeartbeats 1000000 in
theorem takeOut_4 (base b : Nat) (k : Int) (ps ms : List Int) (hd : Int) (pv mv : Value) (w : World) (h : MC base w b ⟨4, k, ps, ms, hd⟩ pv mv) :
    Calls Tryz.prog 62 #[.pointer (some ⟨b, 0, none⟩)] w (Ret fun v' w' => v' = .tuple #[] ∧ After base w b pv mv (outC ⟨4, k, ps, ms, hd⟩) w') := by
  have e : outC ⟨4, k, ps, ms, hd⟩ = ⟨4, k, [], ms, hd⟩ := by
    simp [outC]
  rw [e]; clear e
  obtain ⟨hbox, hp, hm, hap, hd2, hd3⟩ := h
  simp only at hbox hp hm
  have hpr := hp.readNo
  obtain ⟨a, pn, cap, rfl⟩ := hp.shape
  obtain ⟨ma, mn, mc, rfl⟩ := hm.shape
  obtain ⟨c0, c1, c2, c3, c4, hf⟩ := id hbox
  have hf2 := hf 2
  have hpn : (pn : Int) ≤ 17592186044416 := by have := hpr.n; have := hpr.len; omega
  clear hpr
  have hno : ∀ q, ¬ own (.slice none 0 0) q := fun q hq => by simp [own, Value.ownBlock] at hq
  go_enter Tryz.func62, Tryz.ntmps62
  go_wp2
  go_end0
  refine ⟨_, rfl, rfl, _, _, ⟨hbox.set2 _, OI.nil _ _, hm.set b 2 _ hd3, fun q hq => absurd hq (hno q), hno b, hd3⟩, (Chg.refl _ w).setCell (fun _ => .inl rfl) _, ?_⟩
  intro q hq
  rcases hq with rfl | hq | hq
  · exact .inl (.inl rfl)
  · exact absurd hq (hno q)
  · exact .inl (.inr (.inr hq))

set_option maxRecDepth 100000 in
set_option maxHeartbeats 1000000 in
theorem takeOut_5 (base b : Nat) (k : Int) (ps ms : List Int) (hd : Int) (pv mv : Value) (w : World) (h : MC base w b ⟨5, k, ps, ms, hd⟩ pv mv) (hl : 0 < ps.length) (hlm : Hid (ms.length = ps.length)) :
    Calls Tryz.prog 62 #[.pointer (some ⟨b, 0, none⟩)] w (Ret fun v' w' => v' = .tuple #[] ∧ After base w b pv mv (outC ⟨5, k, ps, ms, hd⟩) w') := by
  have hl' : 0 < ms.length := by have := hlm.out; omega
  have e : outC ⟨5, k, ps, ms, hd⟩ = ⟨5, k, ps.eraseIdx (rarest ms), ms.eraseIdx (rarest ms), hd⟩ := by
    simp [outC, victim]
  rw [e]; clear e
  have hra : rarest ms < ms.length := rareTo_lt ms ms.length hl'
  obtain ⟨hbox, hp, hm, hap, hd2, hd3⟩ := h
  simp only at hbox hp hm
  have hL := hp.len
  obtain ⟨a, pn, cap, rfl⟩ := hp.shape
  obtain ⟨ma, mc, hmv, _, _, hvw⟩ := hm.view
  obtain ⟨g, ha, hg1, hg2, hcell, hfr⟩ := hvw (by omega)
  subst ha
  subst hmv
  obtain ⟨c0, c1, c2, c3, c4, hf⟩ := id hbox
  have hpn : Hid (pn = ms.length) := Lib.hid (by have := hp.readNo.n; have := hlm.out; omega)
  have hpnb : (pn : Int) ≤ 17592186044416 := by have := hp.readNo.n; omega
  have hpn0 : (1 : Int) ≤ pn := by have := hp.readNo.n; omega
  go_enter Tryz.func62, Tryz.ntmps62
  go_wp2
  go_loopw [3, 4] (fun at' i wr => ∃ j : Nat, j ≤ ms.length ∧ i = .int .i64 ((ms.length : Int) - 1 - j) ∧ at' = .int .i64 (downTo ms j) ∧ Chg No w wr) (fun _ i _ => (intOf i + 1).toNat)
  case atStart => exact ⟨0, Nat.zero_le _, by rw [hpn.out]; simp, by rw [hpn.out]; simp [downTo]; omega, Chg.refl _ _⟩
  case round =>
    obtain ⟨j, hj, rfl, rfl, hch⟩ := hrel
    have hc3 := (hch.cellD b 3 hbox.lt (fun e => e)).trans c3
    by_cases hlt : j < ms.length
    · obtain ⟨d1, d2, _⟩ := downTo_spec ms hl' j hj
      obtain ⟨q, hq⟩ : ∃ q : Nat, q = ms.length - 1 - j := ⟨_, rfl⟩
      have hqi : (ms.length : Int) - 1 - (j : Int) = (q : Int) := by omega
      have hqm : q < ms.length := by omega
      have hcq := (hch.cellD g q hg2 (fun e => e)).trans (hcell q hqm)
      have hcd := (hch.cellD g (downTo ms j) hg2 (fun e => e)).trans (hcell _ d1)
      have hst : Hid (downTo ms (j + 1) = if ms[q] < ms[downTo ms j] then q else downTo ms j) := by
        show (if ms.getD (ms.length - 1 - j) 0 < ms.getD (downTo ms j) 0 then ms.length - 1 - j else downTo ms j) = _
        rw [← hq]
        simp [hqm, d1]
      rw [hqi]
      have HQ := Lib.hid hqi
      have HQ2 := Lib.hid hq
      clear hqi hq d2
      have hq0 : (0 : Int) ≤ (q : Int) := Int.natCast_nonneg _
      have hq1 : (q : Int) < (ms.length : Int) := by omega
      have hd0 : (0 : Int) ≤ (downTo ms j : Int) := Int.natCast_nonneg _
      have hd1 : (downTo ms j : Int) < (ms.length : Int) := by omega
      go_wp2_with fail
      go_quiet (fail)
      go_wp2
      · go_roundw
        case rel => exact ⟨j + 1, by omega, congrArg (Value.int .i64) (by have := HQ.out; omega), by rw [hst.out, if_pos (by assumption)], hch.drewN _⟩
        case measure => simp [intOf] <;> omega
      · go_roundw
        case rel => exact ⟨j + 1, by omega, congrArg (Value.int .i64) (by have := HQ.out; omega), by rw [hst.out, if_neg (by omega)], hch.drewN _⟩
        case measure => simp [intOf] <;> omega
    · have hjl : j = ms.length := by omega
      subst hjl
      have hdr := down_rarest ms hl'
      obtain ⟨r, hr⟩ : ∃ r, rarest ms = r := ⟨_, rfl⟩
      rw [hr] at hdr hra
      rw [hdr]
      have HR := Lib.hid hr
      clear hdr hr
      have hp1 := hp.keep hch
      have hm1 := hm.keep hch
      have hbox1 := hbox.keep hch
      have hz1 := hch.size
      have hra0 : (0 : Int) ≤ (r : Int) := Int.natCast_nonneg _
      have hrw : IntKind.i64.wrap ((r : Int) + 1) = (r : Int) + 1 := IntWalk.i64_in _ (by omega)
      have hrp : r < ps.length := by have := hlm.out; omega
      have b2 := hbox1.c2
      have b3 := hbox1.c3
      have hlt0 : ¬ (0 : Int) ≤ (ms.length : Int) - 1 - (ms.length : Int) := by omega
      clear c0 c1 c2 c3 c4 hcell hfr hc3
      go_wp2_with fail
      go_region_with (first | (go_at_call 70; ((with_reducible refine (Delete1_any base (.slice a pn cap) ps r _ _ (hp1.keep (Chg.refl No wr).drew) hrp rfl).mono ?_)); rintro e w1 ⟨v1, rfl, h1, hc1, ho1⟩; have hb1 := (hbox1.keep (Chg.refl No wr).drew).step hc1 hd2; have g2 := hb1.c2; have g3 := hb1.c3; have hm2 := (hm1.keep (Chg.refl No wr).drew).step hc1 (fun q hq hq' => hap q hq' hq)) | (go_at_call 70; ((with_reducible refine (Delete1_any base (.slice (some ⟨g, 0, none⟩) ms.length mc) ms r _ _ hm2 hra rfl).mono ?_)); rintro e w2 ⟨v2, rfl, h2, hc2, ho2⟩; obtain ⟨a1, n1, cc1, rfl⟩ := h1.shape; obtain ⟨a2, n2, cc2, rfl⟩ := h2.shape; have hb2 := hb1.step hc2 hd3; have k2 := hb2.c2; have k3 := hb2.c3; have kf2 := hb2.fr 2; have kf3 := hb2.fr 3))
      all_goals
        go_wp2
        go_end0
        rw [HR.out]
        refine ⟨_, rfl, rfl, _, _, ⟨(hb2.set2 _).set3 _, (((h1.step hc2 (fun q hq hq' => hap q (ho1 q hq) hq')).set b 2 _ (fun hq => hd2 (ho1 b hq))).set b 3 _ (fun hq => hd2 (ho1 b hq))), ((h2.set b 2 _ (fun hq => hd3 (ho2 b hq))).set b 3 _ (fun hq => hd3 (ho2 b hq))),
          fun q hq hq' => hap q (ho1 q hq) (ho2 q hq'), fun hq => hd2 (ho1 b hq), fun hq => hd3 (ho2 b hq)⟩, ?_, ?_⟩
        · exact ((((hch.mono (fun _ hq _ => hq.elim)).drew.step hc1 (fun q hq _ => .inr (.inl hq))).step hc2 (fun q hq _ => .inr (.inr hq))).setCell (fun _ => .inl rfl) _).setCell (fun _ => .inl rfl) _
        · intro q hq
          rcases hq with rfl | hq | hq
          · exact .inl (.inl rfl)
          · exact .inl (.inr (.inl (ho1 q hq)))
          · exact .inl (.inr (.inr (ho2 q hq)))

theorem takeOut_any (base b : Nat) (c : Ca) (pv mv : Value) (w : World) (h : MC base w b c pv mv) (hok : Ok c) (h6 : c.pol ≠ 6) (hl : 0 < c.pages.length) :
    Calls Tryz.prog 62 #[.pointer (some ⟨b, 0, none⟩)] w (Ret fun v' w' => v' = .tuple #[] ∧ After base w b pv mv (outC c) w') := by
  have hpol := hok.pol
  have hm := hok.marks
  obtain ⟨p, k, ps, ms, hd⟩ := c
  simp only at *
  have hcase : (p = 1 ∨ p = 2) ∨ (p = 3 ∨ p = 7) ∨ p = 4 ∨ p = 5 := by omega
  rcases hcase with hh | hh | rfl | rfl
  · exact takeOut_12 base b p k ps ms hd pv mv w h hh hl
  · exact takeOut_37 base b p k ps ms hd pv mv w h hh hl
  · exact takeOut_4 base b k ps ms hd pv mv w h
  · exact takeOut_5 base b k ps ms hd pv mv w h hl (Lib.hid (hm (.inl rfl)))
end Go.Proofs.YtdgcohoneijleaaGreat
