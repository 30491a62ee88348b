import Derived.Test.YtdgcohoneijleaaGreatDoorL
import Derived.Test.YtdgcohoneijleaaGreatDoorN
set_option maxRecDepth 100000
namespace Go.Proofs.YtdgcohoneijleaaGreatDoor
open Go.RowKit
theorem erase_last (l : List Int) (h : 0 < l.length) : l.eraseIdx (l.length - 1) = l.take (l.length - 1) := by
 rw [List.eraseIdx_eq_take_drop_succ, List.drop_eq_nil_of_le (by omega), List.append_nil]
set_option maxHeartbeats 1000000 in
theorem takeOut_12 (base b : Nat) (p k : Int) (ps ms : List Int) (hd : Int) (pv mv : Value) (w : World) (h : MC base w b ⟨p, k, ps, ms, hd⟩ pv mv) (hpp : p = 1 ∨ p = 2) (hl : 0 < ps.length) :
  Calls Tryz.prog 145 #[.pointer (some ⟨b, 0, none⟩)] w (Ret fun v' w' => v' = .tuple #[] ∧ After base w b pv mv (outC ⟨p, k, ps, ms, hd⟩) w') := by
 have e : outC ⟨p, k, ps, ms, hd⟩ = ⟨p, k, ps.take (ps.length - 1), ms, hd⟩ := by
  unfold outC victim
  simp only
  rw [if_neg (by omega), if_neg (by omega), if_neg (by omega), if_neg (by omega), if_neg (by omega), erase_last ps hl]
 rw [e]; clear e
 obtain ⟨hbox, hp, hm, hap, hd2, hd3⟩ := h
 simp only at hbox hp hm
 have hL := hp.len
 obtain ⟨a, cap, hpv, hcap, _, hvw⟩ := hp.view
 obtain ⟨g, ha, hg1, hg2, hcell, hfr⟩ := hvw (by omega)
 subst ha
 subst hpv
 obtain ⟨ma, mn, mc, rfl⟩ := hm.shape
 clear hcell hfr hvw
 have hpre := hp.pre (ps.length - 1) (by omega)
 have hN : ((ps.length - 1 : Nat) : Int) = (ps.length : Int) - 1 := by omega
 have HN := Lib.hid hN
 clear hN
 have hsl : ∀ w' : World, (Instr.slice 23 (.slice (some ⟨g, 0, none⟩) ps.length cap) none (some (.int .i64 ((ps.length : Int) - 1))) none).run Tryz.prog w' = .ok (.slice (some ⟨g, 0, none⟩) (ps.length - 1) cap) w' := by
  intro w'
  rw [← HN.out, run_slice_h w' 23 _ ps.length cap und_el .i64 _ (by omega) (by omega), run_sz]
  simp [Result.andThen, sliced, Addr.add]
 obtain ⟨c0, c1, c2, c3, c4, hf⟩ := id hbox
 have hf2 := hf 2
 rcases hpp with rfl | rfl
 all_goals
  go_enter Tryz.func145, Tryz.ntmps145
  go_wp2
  go_end0
  refine ⟨_, rfl, rfl, _, _, ⟨hbox.set2 _, hpre.set b 2 _ (fun hq => hd2 (own_slice.2 (own_slice.1 hq))), hm.set b 2 _ hd3, fun q hq => hap q (own_slice.2 (own_slice.1 hq)), fun hq => hd2 (own_slice.2 (own_slice.1 hq)), hd3⟩, (Chg.refl _ w).setCell (fun _ => .inl rfl) _, ?_⟩
  intro q hq
  rcases hq with rfl | hq | hq
  ·exact .inl (.inl rfl)
  ·exact .inl (.inr (.inl (own_slice.2 (own_slice.1 hq))))
  ·exact .inl (.inr (.inr hq))
set_option maxHeartbeats 1000000 in
theorem takeOut_37 (base b : Nat) (p k : Int) (ps ms : List Int) (hd : Int) (pv mv : Value) (w : World) (h : MC base w b ⟨p, k, ps, ms, hd⟩ pv mv) (hpp : p = 3 ∨ p = 7) (hl : 0 < ps.length) :
  Calls Tryz.prog 145 #[.pointer (some ⟨b, 0, none⟩)] w (Ret fun v' w' => v' = .tuple #[] ∧ After base w b pv mv (outC ⟨p, k, ps, ms, hd⟩) w') := by
 have e : outC ⟨p, k, ps, ms, hd⟩ = ⟨p, k, ps.eraseIdx 0, ms, hd⟩ := by
  rcases hpp with rfl | rfl <;> simp [outC, victim]
 rw [e]; clear e
 obtain ⟨hbox, hp, hm, hap, hd2, hd3⟩ := h
 simp only at hbox hp hm
 obtain ⟨a, pn, cap, rfl⟩ := hp.shape
 obtain ⟨ma, mn, mc, rfl⟩ := hm.shape
 obtain ⟨c0, c1, c2, c3, c4, hf⟩ := id hbox
 have hpn : 0 < pn := by have := hp.readNo.n; omega
 rcases hpp with rfl | rfl
 all_goals
  go_enter Tryz.func145, Tryz.ntmps145
  go_wp2_with fail
  refine (Delete1_any base _ ps 0 1 w hp hl rfl).mono ?_
  rintro e w1 ⟨v1, rfl, h1, hc1, ho1⟩
  obtain ⟨a1, n1, cc1, rfl⟩ := h1.shape
  have hbox1 := hbox.step hc1 hd2
  have hm1 := hm.step hc1 (fun q hq hq' => hap q hq' hq)
  have g2 := hbox1.c2
  have f2 := hbox1.fr 2
  go_wp2_with fail
  go_end0
  refine ⟨_, rfl, rfl, _, _, ⟨hbox1.set2 _, h1.set b 2 _ (fun hq => hd2 (ho1 b hq)), hm1.set b 2 _ hd3, fun q hq => hap q (ho1 q hq), fun hq => hd2 (ho1 b hq), hd3⟩, ((Chg.refl _ w).step hc1 (fun q hq _ => .inr (.inl hq))).setCell (fun _ => .inl rfl) _, ?_⟩
  intro q hq
  rcases hq with rfl | hq | hq
  ·exact .inl (.inl rfl)
  ·exact .inl (.inr (.inl (ho1 q hq)))
  ·exact .inl (.inr (.inr hq))
set_option maxHeartbeats 1000000 in
theorem takeOut_4 (base b : Nat) (k : Int) (ps ms : List Int) (hd : Int) (pv mv : Value) (w : World) (h : MC base w b ⟨4, k, ps, ms, hd⟩ pv mv) :
  Calls Tryz.prog 145 #[.pointer (some ⟨b, 0, none⟩)] w (Ret fun v' w' => v' = .tuple #[] ∧ After base w b pv mv (outC ⟨4, k, ps, ms, hd⟩) w') := by
 have e : outC ⟨4, k, ps, ms, hd⟩ = ⟨4, k, [], ms, hd⟩ := by
  simp [outC]
 rw [e]; clear e
 obtain ⟨hbox, hp, hm, hap, hd2, hd3⟩ := h
 simp only at hbox hp hm
 have hpr := hp.readNo
 obtain ⟨a, pn, cap, rfl⟩ := hp.shape
 obtain ⟨ma, mn, mc, rfl⟩ := hm.shape
 obtain ⟨c0, c1, c2, c3, c4, hf⟩ := id hbox
 have hf2 := hf 2
 have hpn : (pn : Int) ≤ 17592186044416 := by have := hpr.n; have := hpr.len; omega
 clear hpr
 have hno : ∀ q, ¬ own (.slice none 0 0) q := fun q hq => by simp [own, Value.ownBlock] at hq
 go_enter Tryz.func145, Tryz.ntmps145
 go_wp2
 go_end0
 refine ⟨_, rfl, rfl, _, _, ⟨hbox.set2 _, OI.nil _ _, hm.set b 2 _ hd3, fun q hq => absurd hq (hno q), hno b, hd3⟩, (Chg.refl _ w).setCell (fun _ => .inl rfl) _, ?_⟩
 intro q hq
 rcases hq with rfl | hq | hq
 ·exact .inl (.inl rfl)
 ·exact absurd hq (hno q)
 ·exact .inl (.inr (.inr hq))
set_option maxHeartbeats 1000000 in
theorem takeOut_5 (base b : Nat) (k : Int) (ps ms : List Int) (hd : Int) (pv mv : Value) (w : World) (h : MC base w b ⟨5, k, ps, ms, hd⟩ pv mv) (hl : 0 < ps.length) (hlm : Hid (ms.length = ps.length)) :
  Calls Tryz.prog 145 #[.pointer (some ⟨b, 0, none⟩)] w (Ret fun v' w' => v' = .tuple #[] ∧ After base w b pv mv (outC ⟨5, k, ps, ms, hd⟩) w') := by
 have hl' : 0 < ms.length := by have := hlm.out; omega
 have e : outC ⟨5, k, ps, ms, hd⟩ = ⟨5, k, ps.eraseIdx (rarest ms), ms.eraseIdx (rarest ms), hd⟩ := by
  simp [outC, victim]
 rw [e]; clear e
 have hra : rarest ms < ms.length := rareTo_lt ms ms.length hl'
 obtain ⟨hbox, hp, hm, hap, hd2, hd3⟩ := h
 simp only at hbox hp hm
 have hL := hp.len
 obtain ⟨a, pn, cap, rfl⟩ := hp.shape
 obtain ⟨ma, mc, hmv, _, _, hvw⟩ := hm.view
 obtain ⟨g, ha, hg1, hg2, hcell, hfr⟩ := hvw (by omega)
 subst ha
 subst hmv
 obtain ⟨c0, c1, c2, c3, c4, hf⟩ := id hbox
 have hpn : Hid (pn = ms.length) := Lib.hid (by have := hp.readNo.n; have := hlm.out; omega)
 have hpnb : (pn : Int) ≤ 17592186044416 := by have := hp.readNo.n; omega
 have hpn0 : (1 : Int) ≤ pn := by have := hp.readNo.n; omega
 go_enter Tryz.func145, Tryz.ntmps145
 go_wp2
 go_loopw [3, 4] (fun at' i wr => ∃ j : Nat, j ≤ ms.length ∧ i = .int .i64 ((ms.length : Int) - 1 - j) ∧ at' = .int .i64 (downTo ms j) ∧ Chg No w wr) (fun _ i _ => (intOf i + 1).toNat)
 case atStart => exact ⟨0, Nat.zero_le _, by rw [hpn.out]; simp, by rw [hpn.out]; simp [downTo]; omega, Chg.refl _ _⟩
 case round =>
  obtain ⟨j, hj, rfl, rfl, hch⟩ := hrel
  have hc3 := (hch.cellD b 3 hbox.lt (fun e => e)).trans c3
  by_cases hlt : j < ms.length
  ·obtain ⟨d1, d2, _⟩ := downTo_spec ms hl' j hj
   obtain ⟨q, hq⟩ : ∃ q : Nat, q = ms.length - 1 - j := ⟨_, rfl⟩
   have hqi : (ms.length : Int) - 1 - (j : Int) = (q : Int) := by omega
   have hqm : q < ms.length := by omega
   have hcq := (hch.cellD g q hg2 (fun e => e)).trans (hcell q hqm)
   have hcd := (hch.cellD g (downTo ms j) hg2 (fun e => e)).trans (hcell _ d1)
   have hst : Hid (downTo ms (j + 1) = if ms[q] < ms[downTo ms j] then q else downTo ms j) := by
    show (if ms.getD (ms.length - 1 - j) 0 < ms.getD (downTo ms j) 0 then ms.length - 1 - j else downTo ms j) = _
    rw [← hq]
    simp [hqm, d1]
   rw [hqi]
   have HQ := Lib.hid hqi
   have HQ2 := Lib.hid hq
   clear hqi hq d2
   have hq0 : (0 : Int) ≤ (q : Int) := Int.natCast_nonneg _
   have hq1 : (q : Int) < (ms.length : Int) := by omega
   have hd0 : (0 : Int) ≤ (downTo ms j : Int) := Int.natCast_nonneg _
   have hd1 : (downTo ms j : Int) < (ms.length : Int) := by omega
   go_wp2_with fail
   go_quiet (fail)
   go_wp2
   ·go_roundw
    case rel => exact ⟨j + 1, by omega, congrArg (Value.int .i64) (by have := HQ.out; omega), by rw [hst.out, if_pos (by assumption)], hch.drewN _⟩
    case measure => simp [intOf] <;> omega
   ·go_roundw
    case rel => exact ⟨j + 1, by omega, congrArg (Value.int .i64) (by have := HQ.out; omega), by rw [hst.out, if_neg (by omega)], hch.drewN _⟩
    case measure => simp [intOf] <;> omega
  ·have hjl : j = ms.length := by omega
   subst hjl
   have hdr := down_rarest ms hl'
   obtain ⟨r, hr⟩ : ∃ r, rarest ms = r := ⟨_, rfl⟩
   rw [hr] at hdr hra
   rw [hdr]
   have HR := Lib.hid hr
   clear hdr hr
   have hp1 := hp.keep hch
   have hm1 := hm.keep hch
   have hbox1 := hbox.keep hch
   have hz1 := hch.size
   have hra0 : (0 : Int) ≤ (r : Int) := Int.natCast_nonneg _
   have hrw : IntKind.i64.wrap ((r : Int) + 1) = (r : Int) + 1 := IntWalk.i64_in _ (by omega)
   have hrp : r < ps.length := by have := hlm.out; omega
   have b2 := hbox1.c2
   have b3 := hbox1.c3
   have hlt0 : ¬ (0 : Int) ≤ (ms.length : Int) - 1 - (ms.length : Int) := by omega
   clear c0 c1 c2 c3 c4 hcell hfr hc3
   go_wp2_with fail
   go_region_with (first | (go_at_call 170; ((with_reducible refine (Delete1_any base (.slice a pn cap) ps r _ _ (hp1.keep (Chg.refl No wr).drew) hrp rfl).mono ?_)); rintro e w1 ⟨v1, rfl, h1, hc1, ho1⟩; have hb1 := (hbox1.keep (Chg.refl No wr).drew).step hc1 hd2; have g2 := hb1.c2; have g3 := hb1.c3; have hm2 := (hm1.keep (Chg.refl No wr).drew).step hc1 (fun q hq hq' => hap q hq' hq)) | (go_at_call 170; ((with_reducible refine (Delete1_any base (.slice (some ⟨g, 0, none⟩) ms.length mc) ms r _ _ hm2 hra rfl).mono ?_)); rintro e w2 ⟨v2, rfl, h2, hc2, ho2⟩; obtain ⟨a1, n1, cc1, rfl⟩ := h1.shape; obtain ⟨a2, n2, cc2, rfl⟩ := h2.shape; have hb2 := hb1.step hc2 hd3; have k2 := hb2.c2; have k3 := hb2.c3; have kf2 := hb2.fr 2; have kf3 := hb2.fr 3))
   all_goals
    go_wp2
    go_end0
    rw [HR.out]
    refine ⟨_, rfl, rfl, _, _, ⟨(hb2.set2 _).set3 _, (((h1.step hc2 (fun q hq hq' => hap q (ho1 q hq) hq')).set b 2 _ (fun hq => hd2 (ho1 b hq))).set b 3 _ (fun hq => hd2 (ho1 b hq))), ((h2.set b 2 _ (fun hq => hd3 (ho2 b hq))).set b 3 _ (fun hq => hd3 (ho2 b hq))),
     fun q hq hq' => hap q (ho1 q hq) (ho2 q hq'), fun hq => hd2 (ho1 b hq), fun hq => hd3 (ho2 b hq)⟩, ?_, ?_⟩
    ·exact ((((hch.mono (fun _ hq _ => hq.elim)).drew.step hc1 (fun q hq _ => .inr (.inl hq))).step hc2 (fun q hq _ => .inr (.inr hq))).setCell (fun _ => .inl rfl) _).setCell (fun _ => .inl rfl) _
    ·intro q hq
     rcases hq with rfl | hq | hq
     ·exact .inl (.inl rfl)
     ·exact .inl (.inr (.inl (ho1 q hq)))
     ·exact .inl (.inr (.inr (ho2 q hq)))
theorem takeOut_any (base b : Nat) (c : Ca) (pv mv : Value) (w : World) (h : MC base w b c pv mv) (hok : Ok c) (h6 : c.pol ≠ 6) (hl : 0 < c.pages.length) :
  Calls Tryz.prog 145 #[.pointer (some ⟨b, 0, none⟩)] w (Ret fun v' w' => v' = .tuple #[] ∧ After base w b pv mv (outC c) w') := by
 have hpol := hok.pol
 have hm := hok.marks
 obtain ⟨p, k, ps, ms, hd⟩ := c
 simp only at *
 have hcase : (p = 1 ∨ p = 2) ∨ (p = 3 ∨ p = 7) ∨ p = 4 ∨ p = 5 := by omega
 rcases hcase with hh | hh | rfl | rfl
 ·exact takeOut_12 base b p k ps ms hd pv mv w h hh hl
 ·exact takeOut_37 base b p k ps ms hd pv mv w h hh hl
 ·exact takeOut_4 base b k ps ms hd pv mv w h
 ·exact takeOut_5 base b k ps ms hd pv mv w h hl (Lib.hid (hm (.inl rfl)))
end Go.Proofs.YtdgcohoneijleaaGreatDoor
namespace Go.Proofs.YtdgcohoneijleaaGreatDoor
open Go.RowKit
set_option maxHeartbeats 1000000 in
theorem step_hit (base b : Nat) (c : Ca) (x : Int) (pv mv : Value) (w : World) (h : MC base w b c pv mv) (hb : base ≤ w.heap.size) (hok : Ok c) (i : Nat) (hi : i < c.pages.length) (hat : atI c.pages x = i) (hhas : hasB c.pages x = true) :
  Calls Tryz.prog 97 #[.pointer (some ⟨b, 0, none⟩), .int .i64 x] w (Ret fun v' w' => v' = .bool (!hasB c.pages x) ∧ After base w b pv mv (stepC c x) w') := by
 have e : stepC c x = hitC c i := by unfold stepC; rw [if_pos hhas, hat]; rfl
 rw [e, hhas]; clear e
 obtain ⟨c0, c1, c2, c3, c4, hfb⟩ := id h.box
 have hge : (0 : Int) ≤ (i : Int) := Int.natCast_nonneg _
 have HA := Lib.hid hat
 clear hat hhas
 go_enter Tryz.func97, Tryz.ntmps97
 go_wp2_with fail
 refine (Index_any No _ c.pages x w h.pages.readNo).mono ?_
 rintro e w1 ⟨rfl, rfl⟩
 rw [HA.out]
 go_wp2_with fail
 refine (hit_any base b c pv mv i w h hb hok hi).mono ?_
 rintro e w2 ⟨v2, rfl, rfl, hA⟩
 go_wp2
 go_ret
 exact ⟨_, rfl, rfl, hA⟩
set_option maxHeartbeats 1000000 in
theorem step_turn (base b : Nat) (c : Ca) (x : Int) (pv mv : Value) (w : World) (h : MC base w b c pv mv) (hb : base ≤ w.heap.size) (hok : Ok c) (h6 : c.pol = 6) (hat : atI c.pages x = -1) (hhas : hasB c.pages x = false) :
  Calls Tryz.prog 97 #[.pointer (some ⟨b, 0, none⟩), .int .i64 x] w (Ret fun v' w' => v' = .bool (!hasB c.pages x) ∧ After base w b pv mv (stepC c x) w') := by
 have e : stepC c x = clockC c x := by unfold stepC faultC; rw [hhas]; simp [h6]
 rw [e, hhas]; clear e
 obtain ⟨c0, c1, c2, c3, c4, hfb⟩ := id h.box
 have c0' := c0
 rw [h6] at c0'
 have HA := Lib.hid hat
 clear hat hhas c0
 go_enter Tryz.func97, Tryz.ntmps97
 go_wp2_with fail
 refine (Index_any No _ c.pages x w h.pages.readNo).mono ?_
 rintro e w1 ⟨rfl, rfl⟩
 rw [HA.out]
 go_wp2_with fail
 refine (turn_any base b c x pv mv w h hb hok h6).mono ?_
 rintro e w2 ⟨v2, rfl, rfl, hA⟩
 go_wp2
 go_ret
 exact ⟨_, rfl, rfl, hA⟩
structure AM (base : Nat) (w : World) (b : Nat) (pv mv : Value) (c : Ca) (W : World) (pv' mv' : Value) : Prop where
 mc : MC base W b c pv' mv'
 ch : Chg (foot b pv mv) w W
 fr : ∀ q, foot b pv' mv' q → foot b pv mv q ∨ w.heap.size ≤ q
theorem After.am {base b : Nat} {w : World} {pv mv : Value} {c : Ca} {W : World} (h : After base w b pv mv c W) : ∃ pv' mv', AM base w b pv mv c W pv' mv' :=
 let ⟨pv', mv', h1, h2, h3⟩ := h; ⟨pv', mv', h1, h2, h3⟩
theorem AM.after {base b : Nat} {w : World} {pv mv : Value} {c : Ca} {W : World} {pv' mv' : Value} (h : AM base w b pv mv c W pv' mv') : After base w b pv mv c W := ⟨pv', mv', h.mc, h.ch, h.fr⟩
theorem AM.refl {base b : Nat} {w : World} {pv mv : Value} {c : Ca} (h : MC base w b c pv mv) : AM base w b pv mv c w pv mv := ⟨h, Chg.refl _ w, fun _ e => .inl e⟩
theorem AM.keep {base b : Nat} {w : World} {pv mv : Value} {c : Ca} {W W' : World} {pv' mv' : Value} (h : AM base w b pv mv c W pv' mv') (hc : Chg No W W') : AM base w b pv mv c W' pv' mv' :=
 ⟨h.mc.keep hc (fun _ _ e => e), h.ch.keep hc, h.fr⟩
theorem AM.sub {base b : Nat} {w : World} {pv mv : Value} {c : Ca} {W : World} {pv' mv' : Value} (h : AM base w b pv mv c W pv' mv') (q : Nat) (hq : foot b pv' mv' q) (hl : q < w.heap.size) : foot b pv mv q := by
 rcases h.fr q hq with h1 | h1
 ·exact h1
 ·omega
theorem AM.ins2 {base b : Nat} {w : World} {pv mv : Value} {p k hd : Int} {ps ms : List Int} {W : World} {pv' mv' : Value} (h : AM base w b pv mv ⟨p, k, ps, ms, hd⟩ W pv' mv') {w3 : World} {v3 : Value} {l : List Int}
  (o : OI base w3 v3 l) (hc : Chg (own pv') W w3) (hf : ∀ q, own v3 q → own pv' q ∨ W.heap.size ≤ q) :
  Box w3 b (.int .i64 p) (.int .i64 k) pv' mv' (.int .i64 hd) ∧ AM base w b pv mv ⟨p, k, l, ms, hd⟩ (w3.setCell ⟨b, 2, none⟩ v3) v3 mv' := by
 have hb := h.mc.box.step hc h.mc.d2
 have hdv : ¬ own v3 b := fun hq => by
  rcases hf b hq with h1 | h1
  ·exact h.mc.d2 h1
  ·have := h.mc.box.lt; omega
 have hz := h.ch.size
 refine ⟨hb, ⟨hb.set2 _, o.set b 2 _ hdv, (h.mc.marks.step hc (fun q hq e => h.mc.apart q e hq)).set b 2 _ h.mc.d3, fun q hq hq' => ?_, hdv, h.mc.d3⟩, (h.ch.step hc (fun q hq hl => h.sub q (.inr (.inl hq)) hl)).setCell (fun _ => .inl rfl) _, fun q hq => ?_⟩
 ·rcases hf q hq with h1 | h1
  ·exact h.mc.apart q h1 hq'
  ·have := (h.mc.marks.lt q hq').2; omega
 ·rcases hq with rfl | hq | hq
  ·exact .inl (.inl rfl)
  ·rcases hf q hq with h1 | h1
   ·exact h.fr q (.inr (.inl h1))
   ·exact .inr (by omega)
  ·exact h.fr q (.inr (.inr hq))
theorem AM.ins3 {base b : Nat} {w : World} {pv mv : Value} {p k hd : Int} {ps ms : List Int} {W : World} {pv' mv' : Value} (h : AM base w b pv mv ⟨p, k, ps, ms, hd⟩ W pv' mv') {w3 : World} {v3 : Value} {l : List Int}
  (o : OI base w3 v3 l) (hc : Chg (own mv') W w3) (hf : ∀ q, own v3 q → own mv' q ∨ W.heap.size ≤ q) :
  Box w3 b (.int .i64 p) (.int .i64 k) pv' mv' (.int .i64 hd) ∧ AM base w b pv mv ⟨p, k, ps, l, hd⟩ (w3.setCell ⟨b, 3, none⟩ v3) pv' v3 := by
 have hb := h.mc.box.step hc h.mc.d3
 have hdv : ¬ own v3 b := fun hq => by
  rcases hf b hq with h1 | h1
  ·exact h.mc.d3 h1
  ·have := h.mc.box.lt; omega
 have hz := h.ch.size
 refine ⟨hb, ⟨hb.set3 _, (h.mc.pages.step hc (fun q hq e => h.mc.apart q hq e)).set b 3 _ h.mc.d2, o.set b 3 _ hdv, fun q hq hq' => ?_, h.mc.d2, hdv⟩, (h.ch.step hc (fun q hq hl => h.sub q (.inr (.inr hq)) hl)).setCell (fun _ => .inl rfl) _, fun q hq => ?_⟩
 ·rcases hf q hq' with h1 | h1
  ·exact h.mc.apart q hq h1
  ·have := (h.mc.pages.lt q hq).2; omega
 ·rcases hq with rfl | hq | hq
  ·exact .inl (.inl rfl)
  ·exact h.fr q (.inr (.inl hq))
  ·rcases hf q hq with h1 | h1
   ·exact h.fr q (.inr (.inr h1))
   ·exact .inr (by omega)
set_option maxHeartbeats 1000000 in
theorem step_out5 (base b : Nat) (p k : Int) (ps ms : List Int) (hd x : Int) (pv mv : Value) (w : World) (h : MC base w b ⟨p, k, ps, ms, hd⟩ pv mv) (hb : base ≤ w.heap.size) (hok : Ok ⟨p, k, ps, ms, hd⟩) (h6 : p ≠ 6) (h5 : p = 5) (hat : atI ps x = -1) (hf : ((ps.length : Int) == k) = true) :
  Calls Tryz.prog 97 #[.pointer (some ⟨b, 0, none⟩), .int .i64 x] w (Ret fun v' w' => v' = .bool true ∧ After base w b pv mv (faultC ⟨p, k, ps, ms, hd⟩ x) w') := by
 obtain ⟨ps', ms', hc1, hl1⟩ : ∃ ps' ms', (if (ps.length : Int) = k then outC ⟨p, k, ps, ms, hd⟩ else ⟨p, k, ps, ms, hd⟩) = ⟨p, k, ps', ms', hd⟩ ∧ Hid (ps'.length ≤ ps.length ∧ ms'.length ≤ ms.length) := by
  rw [if_pos (by simpa using hf)]
  exact ⟨_, _, rfl, Lib.hid ⟨by (split <;> simp [List.length_eraseIdx]) <;> (split <;> omega), by (split <;> simp [List.length_eraseIdx]) <;> (split <;> omega)⟩⟩
 have e : faultC ⟨p, k, ps, ms, hd⟩ x = ⟨p, k, x :: ps', 1 :: ms', hd⟩ := by
  rw [faultC_out _ _ h6]
  simp only [hc1]
  simp [h5]
 rw [e]; clear e
 have hpl : ps'.length < 17592186044416 := by have := h.pages.len; have := hl1.out; have := hok.len; have := hok.size; simp only at *; omega
 have hml : Hid (p = 5 → ms'.length < 17592186044416) := Lib.hid (fun e => by have := hl1.out; have := hok.marks (.inl e); have := hok.len; have := hok.size; simp only at *; omega)
 have hb6 : (p == 6) = false := by simpa using h6
 have hb5 : (p == 5) = true := by simpa using h5
 have HL := Lib.hid (show 0 < ps.length from by have := hok.size; simp at hf; simp only at this; omega)
 have HF := Lib.hid hf
 have HA := Lib.hid hat
 obtain ⟨a1, n1, q1, rfl⟩ := h.pages.shape
 obtain ⟨a2, n2, q2, rfl⟩ := h.marks.shape
 obtain ⟨c0, c1, c2, c3, c4, hfb⟩ := id h.box
 simp only at c0 c1 c4
 have H5 := Lib.hid h5
 clear hat hf h6 h5
 go_enter Tryz.func97, Tryz.ntmps97
 go_wp2_with fail
 refine (Index_any No _ ps x w h.pages.readNo).mono ?_
 rintro e w1 ⟨rfl, rfl⟩
 rw [HA.out]
 go_wp2_with fail
 refine (isFull_any p k _ _ hd ps No _ h.pages.readNo ⟨_, _, _, rfl⟩).mono ?_
 rintro e w1 ⟨v1, rfl, rfl, hk1⟩
 rw [HF.out]
 clear c0 c1 c2 c3 c4 hfb
 have A := (AM.refl h).keep hk1
 have hw1 := hk1.size
 go_wp2_with fail
 refine (takeOut_any base b ⟨p, k, ps, ms, hd⟩ _ _ w1 A.mc hok (by simpa using hb6) HL.out).mono ?_
 rintro e w2 ⟨v2, rfl, rfl, hA⟩
 rw [if_pos (by simpa using HF.out)] at hc1
 rw [hc1] at hA
 obtain ⟨pv', mv', hA'⟩ := hA.am
 have A' : AM base w b _ _ ⟨p, k, ps', ms', hd⟩ w2 pv' mv' := ⟨hA'.mc, A.ch.trans hA'.ch, fun q hq => (hA'.fr q hq).imp id (fun h => Nat.le_trans hw1 h)⟩
 have hz2 := A'.ch.size
 clear hA hA' A hk1
 generalize w2 = W at A' hz2 ⊢
 obtain ⟨a1', n1', q1', rfl⟩ := A'.mc.pages.shape
 obtain ⟨a2', n2', q2', rfl⟩ := A'.mc.marks.shape
 obtain ⟨c0, c1, c2, c3, c4, hfb⟩ := id A'.mc.box
 simp only at c0 c1 c4
 go_wp2_with fail
 refine (Insert0_any base _ _ W.heap.size x 3 _ (A'.mc.pages.alloc _) (by simp; omega) hpl (heap_alloc_new W _) (fun hq => by have := (A'.mc.pages.lt _ hq).2; omega)).mono ?_
 rintro e w3 ⟨v3, rfl, o3, k3, f3⟩
 obtain ⟨B3, A3⟩ := A'.ins2 o3 (((Chg.refl _ W).alloc _).trans k3) (fun q hq => (f3 q hq).imp id (fun h => by simp at h; omega))
 obtain ⟨a3, n3, q3, rfl⟩ := o3.shape
 clear c0 c1 c2 c3 c4 hfb
 obtain ⟨c0, c1, c2, c3, c4, hfb⟩ := id B3
 have fb2 := hfb 2
 go_wp2_with fail
 clear c0 c1 c2 c3 c4 hfb fb2
 have hsz : w3.heap.size = (w3.setCell ⟨b, 2, none⟩ (.slice a3 n3 q3)).heap.size := (by simp)
 generalize w3.setCell ⟨b, 2, none⟩ (.slice a3 n3 q3) = W3 at A3 hsz ⊢
 have HSZ := Lib.hid hsz
 clear hsz
 obtain ⟨c0, c1, c2, c3, c4, hfb⟩ := id A3.mc.box
 simp only at c0 c1 c4
 go_wp2_with fail
 rw [HSZ.out]
 refine (Insert0_any base _ _ W3.heap.size 1 3 _ (A3.mc.marks.alloc _) (by have := A3.ch.size; simp; omega) (hml.out H5.out) (heap_alloc_new W3 _) (fun hq => by have := (A3.mc.marks.lt _ hq).2; omega)).mono ?_
 rintro e w5 ⟨v5, rfl, o5, k5, f5⟩
 obtain ⟨B5, A5⟩ := A3.ins3 o5 (((Chg.refl _ W3).alloc _).trans k5) (fun q hq => (f5 q hq).imp id (fun h => by simp at h; omega))
 obtain ⟨a5, n5, q5, rfl⟩ := o5.shape
 clear c0 c1 c2 c3 c4 hfb
 obtain ⟨c0, c1, c2, c3, c4, hfb⟩ := id B5
 have fb3 := hfb 3
 go_wp2
 go_ret
 exact ⟨_, rfl, rfl, A5.after⟩
set_option maxHeartbeats 1000000 in
theorem step_out (base b : Nat) (p k : Int) (ps ms : List Int) (hd x : Int) (pv mv : Value) (w : World) (h : MC base w b ⟨p, k, ps, ms, hd⟩ pv mv) (hb : base ≤ w.heap.size) (hok : Ok ⟨p, k, ps, ms, hd⟩) (h6 : p ≠ 6) (h5 : p ≠ 5) (hat : atI ps x = -1) (hf : ((ps.length : Int) == k) = true) :
  Calls Tryz.prog 97 #[.pointer (some ⟨b, 0, none⟩), .int .i64 x] w (Ret fun v' w' => v' = .bool true ∧ After base w b pv mv (faultC ⟨p, k, ps, ms, hd⟩ x) w') := by
 obtain ⟨ps', ms', hc1, hl1⟩ : ∃ ps' ms', (if (ps.length : Int) = k then outC ⟨p, k, ps, ms, hd⟩ else ⟨p, k, ps, ms, hd⟩) = ⟨p, k, ps', ms', hd⟩ ∧ Hid (ps'.length ≤ ps.length ∧ ms'.length ≤ ms.length) := by
  rw [if_pos (by simpa using hf)]
  exact ⟨_, _, rfl, Lib.hid ⟨by (split <;> simp [List.length_eraseIdx]) <;> (split <;> omega), by (split <;> simp [List.length_eraseIdx]) <;> (split <;> omega)⟩⟩
 have e : faultC ⟨p, k, ps, ms, hd⟩ x = ⟨p, k, x :: ps', ms', hd⟩ := by
  rw [faultC_out _ _ h6]
  simp only [hc1]
  simp [h5]
 rw [e]; clear e
 have hpl : ps'.length < 17592186044416 := by have := h.pages.len; have := hl1.out; have := hok.len; have := hok.size; simp only at *; omega
 have hml : Hid (p = 5 → ms'.length < 17592186044416) := Lib.hid (fun e => by have := hl1.out; have := hok.marks (.inl e); have := hok.len; have := hok.size; simp only at *; omega)
 have hb6 : (p == 6) = false := by simpa using h6
 have hb5 : (p == 5) = false := by simpa using h5
 have HL := Lib.hid (show 0 < ps.length from by have := hok.size; simp at hf; simp only at this; omega)
 have HF := Lib.hid hf
 have HA := Lib.hid hat
 obtain ⟨a1, n1, q1, rfl⟩ := h.pages.shape
 obtain ⟨a2, n2, q2, rfl⟩ := h.marks.shape
 obtain ⟨c0, c1, c2, c3, c4, hfb⟩ := id h.box
 simp only at c0 c1 c4
 have H5 := Lib.hid h5
 clear hat hf h6 h5
 go_enter Tryz.func97, Tryz.ntmps97
 go_wp2_with fail
 refine (Index_any No _ ps x w h.pages.readNo).mono ?_
 rintro e w1 ⟨rfl, rfl⟩
 rw [HA.out]
 go_wp2_with fail
 refine (isFull_any p k _ _ hd ps No _ h.pages.readNo ⟨_, _, _, rfl⟩).mono ?_
 rintro e w1 ⟨v1, rfl, rfl, hk1⟩
 rw [HF.out]
 clear c0 c1 c2 c3 c4 hfb
 have A := (AM.refl h).keep hk1
 have hw1 := hk1.size
 go_wp2_with fail
 refine (takeOut_any base b ⟨p, k, ps, ms, hd⟩ _ _ w1 A.mc hok (by simpa using hb6) HL.out).mono ?_
 rintro e w2 ⟨v2, rfl, rfl, hA⟩
 rw [if_pos (by simpa using HF.out)] at hc1
 rw [hc1] at hA
 obtain ⟨pv', mv', hA'⟩ := hA.am
 have A' : AM base w b _ _ ⟨p, k, ps', ms', hd⟩ w2 pv' mv' := ⟨hA'.mc, A.ch.trans hA'.ch, fun q hq => (hA'.fr q hq).imp id (fun h => Nat.le_trans hw1 h)⟩
 have hz2 := A'.ch.size
 clear hA hA' A hk1
 generalize w2 = W at A' hz2 ⊢
 obtain ⟨a1', n1', q1', rfl⟩ := A'.mc.pages.shape
 obtain ⟨a2', n2', q2', rfl⟩ := A'.mc.marks.shape
 obtain ⟨c0, c1, c2, c3, c4, hfb⟩ := id A'.mc.box
 simp only at c0 c1 c4
 go_wp2_with fail
 refine (Insert0_any base _ _ W.heap.size x 3 _ (A'.mc.pages.alloc _) (by simp; omega) hpl (heap_alloc_new W _) (fun hq => by have := (A'.mc.pages.lt _ hq).2; omega)).mono ?_
 rintro e w3 ⟨v3, rfl, o3, k3, f3⟩
 obtain ⟨B3, A3⟩ := A'.ins2 o3 (((Chg.refl _ W).alloc _).trans k3) (fun q hq => (f3 q hq).imp id (fun h => by simp at h; omega))
 obtain ⟨a3, n3, q3, rfl⟩ := o3.shape
 clear c0 c1 c2 c3 c4 hfb
 obtain ⟨c0, c1, c2, c3, c4, hfb⟩ := id B3
 have fb2 := hfb 2
 go_wp2_with fail
 go_ret
 exact ⟨_, rfl, rfl, A3.after⟩
set_option maxHeartbeats 1000000 in
theorem step_in5 (base b : Nat) (p k : Int) (ps ms : List Int) (hd x : Int) (pv mv : Value) (w : World) (h : MC base w b ⟨p, k, ps, ms, hd⟩ pv mv) (hb : base ≤ w.heap.size) (hok : Ok ⟨p, k, ps, ms, hd⟩) (h6 : p ≠ 6) (h5 : p = 5) (hat : atI ps x = -1) (hf : ((ps.length : Int) == k) = false) :
  Calls Tryz.prog 97 #[.pointer (some ⟨b, 0, none⟩), .int .i64 x] w (Ret fun v' w' => v' = .bool true ∧ After base w b pv mv (faultC ⟨p, k, ps, ms, hd⟩ x) w') := by
 obtain ⟨ps', ms', hc1, hl1⟩ : ∃ ps' ms', (if (ps.length : Int) = k then outC ⟨p, k, ps, ms, hd⟩ else ⟨p, k, ps, ms, hd⟩) = ⟨p, k, ps', ms', hd⟩ ∧ Hid (ps'.length ≤ ps.length ∧ ms'.length ≤ ms.length) := by
  rw [if_neg (by simpa using hf)]
  exact ⟨_, _, rfl, Lib.hid ⟨Nat.le_refl _, Nat.le_refl _⟩⟩
 have e : faultC ⟨p, k, ps, ms, hd⟩ x = ⟨p, k, x :: ps', 1 :: ms', hd⟩ := by
  rw [faultC_out _ _ h6]
  simp only [hc1]
  simp [h5]
 rw [e]; clear e
 have hpl : ps'.length < 17592186044416 := by have := h.pages.len; have := hl1.out; have := hok.len; have := hok.size; simp only at *; omega
 have hml : Hid (p = 5 → ms'.length < 17592186044416) := Lib.hid (fun e => by have := hl1.out; have := hok.marks (.inl e); have := hok.len; have := hok.size; simp only at *; omega)
 have hb6 : (p == 6) = false := by simpa using h6
 have hb5 : (p == 5) = true := by simpa using h5
 have HL := Lib.hid (show True from by trivial)
 have HF := Lib.hid hf
 have HA := Lib.hid hat
 obtain ⟨a1, n1, q1, rfl⟩ := h.pages.shape
 obtain ⟨a2, n2, q2, rfl⟩ := h.marks.shape
 obtain ⟨c0, c1, c2, c3, c4, hfb⟩ := id h.box
 simp only at c0 c1 c4
 have H5 := Lib.hid h5
 clear hat hf h6 h5
 go_enter Tryz.func97, Tryz.ntmps97
 go_wp2_with fail
 refine (Index_any No _ ps x w h.pages.readNo).mono ?_
 rintro e w1 ⟨rfl, rfl⟩
 rw [HA.out]
 go_wp2_with fail
 refine (isFull_any p k _ _ hd ps No _ h.pages.readNo ⟨_, _, _, rfl⟩).mono ?_
 rintro e w1 ⟨v1, rfl, rfl, hk1⟩
 rw [HF.out]
 clear c0 c1 c2 c3 c4 hfb
 have A := (AM.refl h).keep hk1
 have hw1 := hk1.size
 rw [if_neg (by simpa using HF.out)] at hc1
 obtain ⟨rfl, rfl⟩ : ps = ps' ∧ ms = ms' := by simpa using hc1
 have A' := A
 have hz2 := A'.ch.size
 clear A hk1
 generalize w1 = W at A' hz2 ⊢
 obtain ⟨c0, c1, c2, c3, c4, hfb⟩ := id A'.mc.box
 simp only at c0 c1 c4
 go_wp2_with fail
 refine (Insert0_any base _ _ W.heap.size x 3 _ (A'.mc.pages.alloc _) (by simp; omega) hpl (heap_alloc_new W _) (fun hq => by have := (A'.mc.pages.lt _ hq).2; omega)).mono ?_
 rintro e w3 ⟨v3, rfl, o3, k3, f3⟩
 obtain ⟨B3, A3⟩ := A'.ins2 o3 (((Chg.refl _ W).alloc _).trans k3) (fun q hq => (f3 q hq).imp id (fun h => by simp at h; omega))
 obtain ⟨a3, n3, q3, rfl⟩ := o3.shape
 clear c0 c1 c2 c3 c4 hfb
 obtain ⟨c0, c1, c2, c3, c4, hfb⟩ := id B3
 have fb2 := hfb 2
 go_wp2_with fail
 clear c0 c1 c2 c3 c4 hfb fb2
 have hsz : w3.heap.size = (w3.setCell ⟨b, 2, none⟩ (.slice a3 n3 q3)).heap.size := (by simp)
 generalize w3.setCell ⟨b, 2, none⟩ (.slice a3 n3 q3) = W3 at A3 hsz ⊢
 have HSZ := Lib.hid hsz
 clear hsz
 obtain ⟨c0, c1, c2, c3, c4, hfb⟩ := id A3.mc.box
 simp only at c0 c1 c4
 go_wp2_with fail
 rw [HSZ.out]
 refine (Insert0_any base _ _ W3.heap.size 1 3 _ (A3.mc.marks.alloc _) (by have := A3.ch.size; simp; omega) (hml.out H5.out) (heap_alloc_new W3 _) (fun hq => by have := (A3.mc.marks.lt _ hq).2; omega)).mono ?_
 rintro e w5 ⟨v5, rfl, o5, k5, f5⟩
 obtain ⟨B5, A5⟩ := A3.ins3 o5 (((Chg.refl _ W3).alloc _).trans k5) (fun q hq => (f5 q hq).imp id (fun h => by simp at h; omega))
 obtain ⟨a5, n5, q5, rfl⟩ := o5.shape
 clear c0 c1 c2 c3 c4 hfb
 obtain ⟨c0, c1, c2, c3, c4, hfb⟩ := id B5
 have fb3 := hfb 3
 go_wp2
 go_ret
 exact ⟨_, rfl, rfl, A5.after⟩
set_option maxHeartbeats 1000000 in
theorem step_in (base b : Nat) (p k : Int) (ps ms : List Int) (hd x : Int) (pv mv : Value) (w : World) (h : MC base w b ⟨p, k, ps, ms, hd⟩ pv mv) (hb : base ≤ w.heap.size) (hok : Ok ⟨p, k, ps, ms, hd⟩) (h6 : p ≠ 6) (h5 : p ≠ 5) (hat : atI ps x = -1) (hf : ((ps.length : Int) == k) = false) :
  Calls Tryz.prog 97 #[.pointer (some ⟨b, 0, none⟩), .int .i64 x] w (Ret fun v' w' => v' = .bool true ∧ After base w b pv mv (faultC ⟨p, k, ps, ms, hd⟩ x) w') := by
 obtain ⟨ps', ms', hc1, hl1⟩ : ∃ ps' ms', (if (ps.length : Int) = k then outC ⟨p, k, ps, ms, hd⟩ else ⟨p, k, ps, ms, hd⟩) = ⟨p, k, ps', ms', hd⟩ ∧ Hid (ps'.length ≤ ps.length ∧ ms'.length ≤ ms.length) := by
  rw [if_neg (by simpa using hf)]
  exact ⟨_, _, rfl, Lib.hid ⟨Nat.le_refl _, Nat.le_refl _⟩⟩
 have e : faultC ⟨p, k, ps, ms, hd⟩ x = ⟨p, k, x :: ps', ms', hd⟩ := by
  rw [faultC_out _ _ h6]
  simp only [hc1]
  simp [h5]
 rw [e]; clear e
 have hpl : ps'.length < 17592186044416 := by have := h.pages.len; have := hl1.out; have := hok.len; have := hok.size; simp only at *; omega
 have hml : Hid (p = 5 → ms'.length < 17592186044416) := Lib.hid (fun e => by have := hl1.out; have := hok.marks (.inl e); have := hok.len; have := hok.size; simp only at *; omega)
 have hb6 : (p == 6) = false := by simpa using h6
 have hb5 : (p == 5) = false := by simpa using h5
 have HL := Lib.hid (show True from by trivial)
 have HF := Lib.hid hf
 have HA := Lib.hid hat
 obtain ⟨a1, n1, q1, rfl⟩ := h.pages.shape
 obtain ⟨a2, n2, q2, rfl⟩ := h.marks.shape
 obtain ⟨c0, c1, c2, c3, c4, hfb⟩ := id h.box
 simp only at c0 c1 c4
 have H5 := Lib.hid h5
 clear hat hf h6 h5
 go_enter Tryz.func97, Tryz.ntmps97
 go_wp2_with fail
 refine (Index_any No _ ps x w h.pages.readNo).mono ?_
 rintro e w1 ⟨rfl, rfl⟩
 rw [HA.out]
 go_wp2_with fail
 refine (isFull_any p k _ _ hd ps No _ h.pages.readNo ⟨_, _, _, rfl⟩).mono ?_
 rintro e w1 ⟨v1, rfl, rfl, hk1⟩
 rw [HF.out]
 clear c0 c1 c2 c3 c4 hfb
 have A := (AM.refl h).keep hk1
 have hw1 := hk1.size
 rw [if_neg (by simpa using HF.out)] at hc1
 obtain ⟨rfl, rfl⟩ : ps = ps' ∧ ms = ms' := by simpa using hc1
 have A' := A
 have hz2 := A'.ch.size
 clear A hk1
 generalize w1 = W at A' hz2 ⊢
 obtain ⟨c0, c1, c2, c3, c4, hfb⟩ := id A'.mc.box
 simp only at c0 c1 c4
 go_wp2_with fail
 refine (Insert0_any base _ _ W.heap.size x 3 _ (A'.mc.pages.alloc _) (by simp; omega) hpl (heap_alloc_new W _) (fun hq => by have := (A'.mc.pages.lt _ hq).2; omega)).mono ?_
 rintro e w3 ⟨v3, rfl, o3, k3, f3⟩
 obtain ⟨B3, A3⟩ := A'.ins2 o3 (((Chg.refl _ W).alloc _).trans k3) (fun q hq => (f3 q hq).imp id (fun h => by simp at h; omega))
 obtain ⟨a3, n3, q3, rfl⟩ := o3.shape
 clear c0 c1 c2 c3 c4 hfb
 obtain ⟨c0, c1, c2, c3, c4, hfb⟩ := id B3
 have fb2 := hfb 2
 go_wp2_with fail
 go_ret
 exact ⟨_, rfl, rfl, A3.after⟩
theorem step_any (base b : Nat) (c : Ca) (x : Int) (pv mv : Value) (w : World) (h : MC base w b c pv mv) (hb : base ≤ w.heap.size) (hok : Ok c) :
  Calls Tryz.prog 97 #[.pointer (some ⟨b, 0, none⟩), .int .i64 x] w (Ret fun v' w' => v' = .bool (!hasB c.pages x) ∧ After base w b pv mv (stepC c x) w') := by
 rcases atI_spec c.pages x with ⟨hh, i, hi, hat⟩ | ⟨hh, hat⟩
 ·exact step_hit base b c x pv mv w h hb hok i hi hat hh
 ·by_cases h6 : c.pol = 6
  ·exact step_turn base b c x pv mv w h hb hok h6 hat hh
  ·have e : stepC c x = faultC c x := by unfold stepC; rw [hh]; rfl
   rw [e, hh]
   obtain ⟨p, k, ps, ms, hd⟩ := c
   simp only at h6 hat hh
   cases hf : ((ps.length : Int) == k)
   ·by_cases h5 : p = 5
    ·exact step_in5 base b p k ps ms hd x pv mv w h hb hok h6 h5 hat hf
    ·exact step_in base b p k ps ms hd x pv mv w h hb hok h6 h5 hat hf
   ·by_cases h5 : p = 5
    ·exact step_out5 base b p k ps ms hd x pv mv w h hb hok h6 h5 hat hf
    ·exact step_out base b p k ps ms hd x pv mv w h hb hok h6 h5 hat hf
end Go.Proofs.YtdgcohoneijleaaGreatDoor
