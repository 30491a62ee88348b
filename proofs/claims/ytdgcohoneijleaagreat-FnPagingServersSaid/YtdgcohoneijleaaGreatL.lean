import Derived.Test.YtdgcohoneijleaaGreatK
import Derived.Test.YtdgcohoneijleaaGreatC
namespace Go.Proofs.YtdgcohoneijleaaGreat
open Go.RowKit

/-- a Cache behind a pointer, its lists its own -/
structure MC (base : Nat) (w : World) (b : Nat) (c : Ca) (pv mv : Value) : Prop where
  box : Box w b (.int .i64 c.pol) (.int .i64 c.size) pv mv (.int .i64 c.hand)
  pages : OI base w pv c.pages
  marks : OI base w mv c.marks
  apart : ∀ q, own pv q → ¬ own mv q
  d2 : ¬ own pv b
  d3 : ¬ own mv b
def foot (b : Nat) (pv mv : Value) : Nat → Prop := fun q => q = b ∨ own pv q ∨ own mv q

theorem MC.keep {base : Nat} {w w' : World} {b : Nat} {c : Ca} {pv mv : Value} (h : MC base w b c pv mv) {T : Nat → Prop} (hc : Chg T w w') (hT : ∀ q, foot b pv mv q → ¬ T q) : MC base w' b c pv mv :=
  ⟨h.box.step hc (hT b (.inl rfl)), h.pages.step hc (fun q hq => hT q (.inr (.inl hq))), h.marks.step hc (fun q hq => hT q (.inr (.inr hq))), h.apart, h.d2, h.d3⟩
/-- what a method leaves -/
def After (base : Nat) (w : World) (b : Nat) (pv mv : Value) (c' : Ca) (w' : World) : Prop :=
  ∃ pv' mv', MC base w' b c' pv' mv' ∧ Chg (foot b pv mv) w w' ∧ ∀ q, foot b pv' mv' q → foot b pv mv q ∨ w.heap.size ≤ q

set_option maxHeartbeats 400000 in
theorem isFull_any (p k : Int) (pv mv : Value) (hd : Int) (l : List Int) (A : Nat → Prop) (w : World) (h : RI A w pv l) (hm : ∃ a n c, mv = .slice a n c) :
    Calls Tryz.prog 58 #[.agg #[.int .i64 p, .int .i64 k, pv, mv, .int .i64 hd]] w (Ret fun v' w' => v' = .bool ((l.length : Int) == k) ∧ Chg No w w') := by
  obtain ⟨a, cap, rfl, _⟩ := h
  obtain ⟨ma, mn, mc, rfl⟩ := hm
  go_enter Tryz.func58, Tryz.ntmps58
  go_wp2
  go_ret
  exact ⟨_, rfl, rfl, (Chg.refl No w).alloc _⟩

set_option maxRecDepth 100000 in
set_option maxHeartbeats 1000000 in
theorem hit_17 (base b : Nat) (p k : Int) (ps ms : List Int) (hd : Int) (pv mv : Value) (i : Nat) (w : World) (h : MC base w b ⟨p, k, ps, ms, hd⟩ pv mv) (_hb : base ≤ w.heap.size) (hpp : p = 1 ∨ p = 7) (hi : i < ps.length) :
    Calls Tryz.prog 60 #[.pointer (some ⟨b, 0, none⟩), .int .i64 i] w (Ret fun v' w' => v' = .tuple #[] ∧ After base w b pv mv (hitC ⟨p, k, ps, ms, hd⟩ i) w') := by
  have e : hitC ⟨p, k, ps, ms, hd⟩ i = ⟨p, k, ps.getD i 0 :: ps.eraseIdx i, ms, hd⟩ := by simp [hitC, hpp]
  rw [e]; clear e
  obtain ⟨hbox, hp, hm, hap, hd2, hd3⟩ := h
  simp only at hbox hp hm
  have hL := hp.len
  obtain ⟨a, cap, hpv, _, _, hvw⟩ := hp.view
  obtain ⟨g, ha, hg1, hg2, hcell, hfr⟩ := hvw (by omega)
  subst ha
  subst hpv
  obtain ⟨ma, mn, mc, rfl⟩ := hm.shape
  have hgb : g ≠ b := fun e => hd2 (own_slice.2 e.symm)
  obtain ⟨y, hy⟩ : ∃ y, ps.getD i 0 = y := ⟨_, rfl⟩
  have hci := hcell i hi
  rw [hy] at hci ⊢
  clear hcell hvw hy
  obtain ⟨c0, c1, c2, c3, c4, hf⟩ := id hbox
  rcases hpp with rfl | rfl
  all_goals
    go_enter Tryz.func60, Tryz.ntmps60
    go_wp2_with fail
    refine (Delete1_any base _ ps i _ w hp hi rfl).mono ?_
    rintro e w1 ⟨v1, rfl, h1, hc1, ho1⟩
    have hbox1 := hbox.step hc1 hd2
    have hm1 := hm.step hc1 (fun q hq hq' => hap q hq' hq)
    have hz1 := hc1.size
    have hne : ¬ own v1 w1.heap.size := fun hq => by have := (h1.lt _ hq).2; omega
    go_wp2_with fail
    refine (Insert0_any base v1 (ps.eraseIdx i) w1.heap.size y 3 _ (h1.alloc _) (by rw [World.size_alloc]; omega) (by rw [List.length_eraseIdx_of_lt hi]; omega) (heap_alloc_new w1 _) hne).mono ?_
    rintro e w2 ⟨v2, rfl, h2, hc2, ho2⟩
    obtain ⟨a2, n2, cc2, rfl⟩ := h2.shape
    have hc2' : Chg (own v1) w1 w2 := ((Chg.refl _ w1).alloc _).trans hc2
    have hd2' : ¬ own v1 b := fun hq => hd2 (ho1 b hq)
    have hbox2 := hbox1.step hc2' hd2'
    have hm2 := hm1.step hc2' (fun q hq hq' => hap q (ho1 q hq') hq)
    have hz2 := hc2'.size
    have hnew : ∀ q, own (.slice a2 n2 cc2) q → own (.slice (some ⟨g, 0, none⟩) ps.length cap) q ∨ w.heap.size ≤ q := by
      intro q hq
      rcases ho2 q hq with hq | hq
      · exact .inl (ho1 q hq)
      · exact .inr (by rw [World.size_alloc] at hq; omega)
    have g2 := hbox2.c2
    have f2 := hbox2.fr 2
    have hdb : ¬ own (.slice a2 n2 cc2) b := fun hq => by
      rcases hnew b hq with hq | hq
      · exact hd2 hq
      · have := hbox.lt; omega
    go_wp2_with fail
    go_end0
    refine ⟨_, rfl, rfl, _, _, ⟨hbox2.set2 _, h2.set b 2 _ hdb, hm2.set b 2 _ hd3, ?_, hdb, hd3⟩, ?_, ?_⟩
    · intro q hq hq'
      rcases hnew q hq with hq | hq
      · exact hap q hq hq'
      · have := (hm.lt q hq').2; omega
    · exact (((Chg.refl _ w).step hc1 (fun q hq _ => .inr (.inl hq))).step hc2' (fun q hq _ => .inr (.inl (ho1 q hq)))).setCell (fun _ => .inl rfl) _
    · intro q hq
      rcases hq with rfl | hq | hq
      · exact .inl (.inl rfl)
      · rcases hnew q hq with hq | hq
        · exact .inl (.inr (.inl hq))
        · exact .inr hq
      · exact .inl (.inr (.inr hq))

set_option maxRecDepth 100000 in
set_option maxHeartbeats 1000000 in
theorem hit_5 (base b : Nat) (k : Int) (ps ms : List Int) (hd : Int) (pv mv : Value) (i : Nat) (w : World) (h : MC base w b ⟨5, k, ps, ms, hd⟩ pv mv) (hi : i < ms.length) (hsm : 0 ≤ ms.getD i 0 ∧ ms.getD i 0 ≤ 60) :
    Calls Tryz.prog 60 #[.pointer (some ⟨b, 0, none⟩), .int .i64 i] w (Ret fun v' w' => v' = .tuple #[] ∧ After base w b pv mv (hitC ⟨5, k, ps, ms, hd⟩ i) w') := by
  have e : hitC ⟨5, k, ps, ms, hd⟩ i = ⟨5, k, ps, ms.set i (min (ms.getD i 0 + 1) 60), hd⟩ := by simp [hitC]
  rw [e]; clear e
  obtain ⟨hbox, hp, hm, hap, hd2, hd3⟩ := h
  simp only at hbox hp hm
  obtain ⟨a, cap, hmv, _, _, hvw⟩ := hm.view
  obtain ⟨g, ha, hg1, hg2, hcell, hfr⟩ := hvw (by omega)
  subst ha
  subst hmv
  obtain ⟨pa, pn, pc, rfl⟩ := hp.shape
  have hgb : g ≠ b := fun e => hd3 (own_slice.2 e.symm)
  obtain ⟨y, hy⟩ : ∃ y, ms.getD i 0 = y := ⟨_, rfl⟩
  have hci := hcell i hi
  rw [hy] at hci hsm ⊢
  clear hcell hvw hy
  have hfi := hfr i
  have hi0 : (0 : Int) ≤ (i : Int) := Int.natCast_nonneg _
  have hi1 : (i : Int) < (ms.length : Int) := by omega
  have hwr : IntKind.i64.wrap (y + 1) = y + 1 := IntWalk.i64_in _ (by omega)
  obtain ⟨c0, c1, c2, c3, c4, hf⟩ := id hbox
  have hfin : ∀ z, min (y + 1) 60 = z → After base w b (.slice pa pn pc) (.slice (some ⟨g, 0, none⟩) ms.length cap) ⟨5, k, ps, ms.set i (min (y + 1) 60), hd⟩ (w.setCell ⟨g, i, none⟩ (.int .i64 z)).drew := by
    intro z hz
    rw [hz]
    obtain ⟨o1, hch1⟩ := hm.store i z
    exact ⟨_, _, MC.keep ⟨hbox.step hch1 (fun e => hgb e.symm), hp.step hch1 (fun q hq e => hap q hq (own_slice.2 e)), o1, hap, hd2, hd3⟩ (Chg.refl No _).drew (fun _ _ e => e), (hch1.mono (fun q hq _ => .inr (.inr (own_slice.2 hq)))).drew, fun q hq => .inl hq⟩
  have HF := Lib.hid hfin
  clear hfin
  go_enter Tryz.func60, Tryz.ntmps60
  go_wp2_with fail
  go_still_tail 15, (by kernel_rfl)
  go_wp2
  all_goals
    go_end0
    exact ⟨_, rfl, rfl, HF.out _ (by omega)⟩

set_option maxRecDepth 100000 in
set_option maxHeartbeats 1000000 in
theorem hit_6 (base b : Nat) (k : Int) (ps ms : List Int) (hd : Int) (pv mv : Value) (i : Nat) (w : World) (h : MC base w b ⟨6, k, ps, ms, hd⟩ pv mv) (hi : i < ms.length) :
    Calls Tryz.prog 60 #[.pointer (some ⟨b, 0, none⟩), .int .i64 i] w (Ret fun v' w' => v' = .tuple #[] ∧ After base w b pv mv (hitC ⟨6, k, ps, ms, hd⟩ i) w') := by
  have e : hitC ⟨6, k, ps, ms, hd⟩ i = ⟨6, k, ps, ms.set i 1, hd⟩ := by simp [hitC]
  rw [e]; clear e
  obtain ⟨hbox, hp, hm, hap, hd2, hd3⟩ := h
  simp only at hbox hp hm
  obtain ⟨a, cap, hmv, _, _, hvw⟩ := hm.view
  obtain ⟨g, ha, hg1, hg2, hcell, hfr⟩ := hvw (by omega)
  subst ha
  subst hmv
  obtain ⟨pa, pn, pc, rfl⟩ := hp.shape
  have hgb : g ≠ b := fun e => hd3 (own_slice.2 e.symm)
  have hci := hcell i hi
  have hfi := hfr i
  clear hcell hvw
  obtain ⟨o1, hch1⟩ := hm.store i 1
  obtain ⟨c0, c1, c2, c3, c4, hf⟩ := id hbox
  go_enter Tryz.func60, Tryz.ntmps60
  go_wp2
  go_end0
  exact ⟨_, rfl, rfl, _, _, ⟨hbox.step hch1 (fun e => hgb e.symm), hp.step hch1 (fun q hq e => hap q hq (own_slice.2 e)), o1, hap, hd2, hd3⟩, hch1.mono (fun q hq _ => .inr (.inr (own_slice.2 hq))), fun q hq => .inl hq⟩

set_option maxRecDepth 100000 in
set_option maxHeartbeats 1000000 in
theorem hit_234 (base b : Nat) (p k : Int) (ps ms : List Int) (hd : Int) (pv mv : Value) (i : Nat) (w : World) (h : MC base w b ⟨p, k, ps, ms, hd⟩ pv mv) (hpp : p = 2 ∨ p = 3 ∨ p = 4) :
    Calls Tryz.prog 60 #[.pointer (some ⟨b, 0, none⟩), .int .i64 i] w (Ret fun v' w' => v' = .tuple #[] ∧ After base w b pv mv (hitC ⟨p, k, ps, ms, hd⟩ i) w') := by
  have e : hitC ⟨p, k, ps, ms, hd⟩ i = ⟨p, k, ps, ms, hd⟩ := by
    unfold hitC
    rw [if_neg (by simp only; omega), if_neg (by simp only; omega), if_neg (by simp only; omega)]
  rw [e]; clear e
  have h' := h
  obtain ⟨hbox, hp, hm, hap, hd2, hd3⟩ := h
  simp only at hbox
  obtain ⟨c0, c1, c2, c3, c4, hf⟩ := id hbox
  rcases hpp with rfl | rfl | rfl
  all_goals
    go_enter Tryz.func60, Tryz.ntmps60
    go_wp2
    go_end0
    exact ⟨_, rfl, rfl, _, _, h', Chg.refl _ _, fun q hq => .inl hq⟩

theorem hit_any (base b : Nat) (c : Ca) (pv mv : Value) (i : Nat) (w : World) (h : MC base w b c pv mv) (hb : base ≤ w.heap.size) (hok : Ok c) (hi : i < c.pages.length) :
    Calls Tryz.prog 60 #[.pointer (some ⟨b, 0, none⟩), .int .i64 i] w (Ret fun v' w' => v' = .tuple #[] ∧ After base w b pv mv (hitC c i) w') := by
  have hpol := hok.pol
  have hm := hok.marks
  have hsm := hok.small
  obtain ⟨p, k, ps, ms, hd⟩ := c
  simp only at *
  have hcase : (p = 1 ∨ p = 7) ∨ p = 5 ∨ p = 6 ∨ (p = 2 ∨ p = 3 ∨ p = 4) := by omega
  rcases hcase with hh | rfl | rfl | hh
  · exact hit_17 base b p k ps ms hd pv mv i w h hb hh hi
  · have := hm (.inl rfl)
    exact hit_5 base b k ps ms hd pv mv i w h (by omega) (hsm _ (getD_mem (by omega)))
  · have := hm (.inr rfl)
    exact hit_6 base b k ps ms hd pv mv i w h (by omega)
  · exact hit_234 base b p k ps ms hd pv mv i w h hh
end Go.Proofs.YtdgcohoneijleaaGreat
