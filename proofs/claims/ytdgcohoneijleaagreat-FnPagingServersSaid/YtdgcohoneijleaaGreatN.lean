import Derived.Test.YtdgcohoneijleaaGreatL
import Derived.Test.YtdgcohoneijleaaGreatT
namespace Go.Proofs.YtdgcohoneijleaaGreat
open Go.RowKit

set_option maxRecDepth 100000 in
set_option maxHeartbeats 2000000 in
theorem turn_full (base b : Nat) (k : Int) (ps ms : List Int) (hd x : Int) (pv mv : Value) (w : World) (h : MC base w b ⟨6, k, ps, ms, hd⟩ pv mv) (hok : Ok ⟨6, k, ps, ms, hd⟩) (hf : Hid ((ps.length : Int) = k)) :
    Calls Tryz.prog 61 #[.pointer (some ⟨b, 0, none⟩), .int .i64 x] w (Ret fun v' w' => v' = .tuple #[] ∧ After base w b pv mv (clockC ⟨6, k, ps, ms, hd⟩ x) w') := by
  obtain ⟨m', h', ht⟩ : ∃ m' h', turned ⟨6, k, ps, ms, hd⟩ = (m', h') := ⟨_, _, rfl⟩
  have e : clockC ⟨6, k, ps, ms, hd⟩ x = ⟨6, k, ps.set h' x, m'.set h' 1, ((h' : Int) + 1) % k⟩ := by
    unfold clockC
    rw [ht, if_neg (by have := hf.out; simp only; omega)]
  rw [e]; clear e
  have hs := hok.size
  have hh := hok.hand
  have hml := hok.marks (.inr rfl)
  simp only at hs hh hml
  have ht' : turn k.toNat (ms.length + 1) ms hd.toNat = (m', h') := ht
  have HT := Lib.hid ht'
  have HML : Hid (ms.length = k.toNat) := Lib.hid (by have := hf.out; omega)
  have hps : ps.length = k.toNat := by have := hf.out; omega
  have HPS := Lib.hid hps
  clear ht ht' hml hps
  obtain ⟨hbox, hp, hm, hap, hd2, hd3⟩ := h
  simp only at hbox hp hm
  obtain ⟨a, cap, hpv, _, _, hvw⟩ := hp.view
  obtain ⟨gp, ha, hgp1, hgp2, _, hfp⟩ := hvw (by have := HPS.out; omega)
  subst ha
  obtain ⟨a', cap', hmv, _, _, hvw'⟩ := hm.view
  obtain ⟨g, ha, hg1, hg2, _, _⟩ := hvw' (by have := HML.out; omega)
  subst ha
  obtain ⟨pn, hpn⟩ : ∃ pn, pn = ps.length := ⟨_, rfl⟩
  obtain ⟨mn, hmn⟩ : ∃ mn, mn = ms.length := ⟨_, rfl⟩
  rw [← hpn] at hpv
  rw [← hmn] at hmv
  subst hpv hmv
  have hpk : (pn : Int) = k := by have := hf.out; omega
  have HPK := Lib.hid hpk
  have hmk : (mn : Int) = k := by have := HML.out; omega
  have HMK := Lib.hid hmk
  clear hpn hmn hpk hmk hvw hvw'
  have hgg : g ≠ gp := fun e => hap g (own_slice.2 e) (own_slice.2 rfl)
  have hgb : g ≠ b := fun e => hd3 (own_slice.2 e.symm)
  have hgpb : gp ≠ b := fun e => hd2 (own_slice.2 e.symm)
  obtain ⟨c0, c1, c2, c3, c4, hfb⟩ := id hbox
  go_enter Tryz.func61, Tryz.ntmps61
  go_wp2_with fail
  refine (isFull_any 6 k _ _ hd ps No _ hp.readNo ⟨_, _, _, rfl⟩).mono ?_
  rintro e w1 ⟨v1, rfl, rfl, hk1⟩
  have hfull : ((ps.length : Int) == k) = true := by have := hf.out; simp; omega
  have hbox1 := hbox.keep hk1
  have hp1 := hp.keep hk1
  have hm1 := hm.keep hk1
  have hz1 := hk1.size
  clear c0 c1 c2 c3 c4 hfb
  go_wp2_with fail
  go_loopg [] (ms.length + 1) (fun f wr => ∃ (m : List Int) (q : Nat), Hid (turn k.toNat f m q = (m', h')) ∧ m.count 1 < f ∧ (q : Int) < k ∧ Hid (m.length = k.toNat) ∧ Chg (foot b (.slice (some ⟨gp, 0, none⟩) pn cap) (.slice (some ⟨g, 0, none⟩) mn cap')) w wr ∧
    OI base wr (.slice (some ⟨g, 0, none⟩) mn cap') m ∧ OI base wr (.slice (some ⟨gp, 0, none⟩) pn cap) ps ∧
    Box wr b (.int .i64 6) (.int .i64 k) (.slice (some ⟨gp, 0, none⟩) pn cap) (.slice (some ⟨g, 0, none⟩) mn cap') (.int .i64 q))
  case atStart =>
    refine ⟨ms, hd.toNat, HT, by have := List.count_le_length (a := (1 : Int)) (l := ms); omega, by omega, HML, (Chg.refl _ w).keep hk1, hm1, hp1, ?_⟩
    rw [Int.toNat_of_nonneg hh.1]
    exact hbox1
  case round =>
    obtain ⟨m, q, HTq, hcnt, hlt, HLq, hch, ho, hop, B⟩ := hrel
    have hqm : q < m.length := by have := HLq.out; omega
    have hq0 : (0 : Int) ≤ (q : Int) := Int.natCast_nonneg _
    have hq1 : (q : Int) < (mn : Int) := by have := HMK.out; omega
    have hq2 : (q : Int) < (pn : Int) := by have := HPK.out; omega
    have hpn1 : (1 : Int) ≤ (pn : Int) := by omega
    have hpn6 : (pn : Int) ≤ 6 := by have := HPK.out; omega
    have hwq : IntKind.i64.wrap ((q : Int) + 1) = (q : Int) + 1 := IntWalk.i64_in _ (by omega)
    have hp0 : ¬ (pn = 0) := by omega
    have htm : ((q : Int) + 1).tmod (pn : Int) = ((q : Int) + 1) % (pn : Int) := Int.tmod_eq_emod_of_nonneg (by omega)
    have hoc := ho.at.1; have hof := ho.at.2.1; have hog := ho.at.2.2.2.1
    have hpc := hop.at.1; have hpf := hop.at.2.1; have hpg := hop.at.2.2.2.1
    have hcc := hoc q hqm
    have hfg := hof q
    obtain ⟨y, hy⟩ : ∃ y, m.getD q 0 = y := ⟨_, rfl⟩
    rw [hy] at hcc
    obtain ⟨c0, c1, c2, c3, c4, hfb⟩ := id B
    have hfb4 := hfb 4
    have hbl := B.lt
    by_cases h1 : y = 1
    · have hpos : 0 < m.count 1 := List.count_pos_iff.2 (by rw [← h1, ← hy]; exact getD_mem hqm)
      have hy1 : m.getD q 0 = 1 := hy.trans h1
      have HY := Lib.hid hy1
      have hb1 : (y == 1) = true := by simpa using h1
      obtain ⟨f', hf'⟩ : ∃ f', gk = f' + 1 := ⟨gk - 1, by omega⟩
      have HF := Lib.hid hf'
      have e1 : (((q + 1) % k.toNat : Nat) : Int) = ((q : Int) + 1) % (pn : Int) := by have := HPK.out; rw [Int.natCast_emod, Int.toNat_of_nonneg (by omega), HPK.out]; rfl
      have E1 := Lib.hid e1
      clear hf' e1 hy h1 hy1 hoc hof hpc hpf
      obtain ⟨o1, o2⟩ := ho.store q 0
      have B1 := B.step o2 (fun e => hgb e.symm)
      have hop1 := hop.step o2 (fun z hz e => hap z hz (own_slice.2 e))
      have hch1 := hch.step o2 (fun z hz _ => .inr (.inr (own_slice.2 hz)))
      go_wp2_with fail
      go_quiet (fail)
      have hd := (Chg.refl No wr).drewN nq
      have B := B.keep hd
      have ho := ho.keep hd
      have hop := hop.keep hd
      have hch := hch.keep hd
      clear c0 c1 c2 c3 c4 hfb hfb4 hcc hfg hbl o1 o2 B1 hop1 hch1
      generalize wr.drewN nq = W at hd B ho hop hch ⊢
      have hoc := ho.at.1; have hof := ho.at.2.1; have hog := ho.at.2.2.2.1
      have hcc := hoc q hqm
      rw [HY.out] at hcc
      have hfg := hof q
      obtain ⟨c0, c1, c2, c3, c4, hfb⟩ := id B
      clear hoc hof
      go_wp2_with fail
      go_still_tail 9, (by kernel_rfl)
      change wpList _ _ _ _ _ W.drew
      have hd := (Chg.refl No W).drew
      have B := B.keep hd
      have ho := ho.keep hd
      have hop := hop.keep hd
      have hch := hch.keep hd
      clear c0 c1 c2 c3 c4 hfb hcc hfg
      generalize W.drew = W2 at hd B ho hop hch ⊢
      have hoc := ho.at.1; have hof := ho.at.2.1; have hog := ho.at.2.2.2.1
      have hcc := hoc q hqm
      have hfg := hof q
      obtain ⟨o1, o2⟩ := ho.store q 0
      have B1 := B.step o2 (fun e => hgb e.symm)
      have hop1 := hop.step o2 (fun z hz e => hap z hz (own_slice.2 e))
      have hch1 := hch.step o2 (fun z hz _ => .inr (.inr (own_slice.2 hz)))
      clear hoc hof
      go_wp2_with fail
      clear hcc hfg
      generalize W2.setCell ⟨g, q, none⟩ (.int .i64 0) = W3 at o1 o2 B1 hop1 hch1 ⊢
      obtain ⟨c0, c1, c2, c3, c4, hfb⟩ := id B1
      have hfb4 := hfb 4
      go_still_tail 14, (by kernel_rfl)
      go_wp2_with fail
      go_roundg f'
      case measure => have := HF.out; omega
      case rel =>
        have hdd := (Chg.refl No W3).drew
        refine ⟨m.set q 0, (q + 1) % k.toNat, ?_, ?_, ?_, Lib.hid (by rw [List.length_set]; exact HLq.out), ?_, ?_, ?_, ?_⟩
        · have := HTq.out
          rw [HF.out] at this
          unfold turn at this
          rw [if_pos HY.out] at this
          exact Lib.hid this
        · have e : (m.set q 0).count 1 + 1 = m.count 1 := by
            rw [List.count_set hqm]
            have : m[q] = 1 := by rw [← HY.out, List.getD_eq_getElem?_getD, List.getElem?_eq_getElem hqm]; rfl
            simp [this]; omega
          have := HF.out; omega
        · rw [E1.out, HPK.out]; exact Int.emod_lt_of_pos _ (by omega)
        · exact (hch1.keep hdd).setCell (fun _ => .inl rfl) _
        · exact (o1.keep hdd).set b 4 _ hd3
        · exact (hop1.keep hdd).set b 4 _ hd2
        · rw [E1.out]; exact (B1.keep hdd).set4 _
    · have hb1 : (y == 1) = false := by simpa using h1
      have hend : m' = m ∧ h' = q := by
        have := HTq.out
        obtain ⟨f', rfl⟩ : ∃ f', gk = f' + 1 := ⟨gk - 1, by omega⟩
        unfold turn at this
        rw [if_neg (by rw [hy]; exact h1)] at this
        simp only [Prod.mk.injEq] at this
        exact ⟨this.1.symm, this.2.symm⟩
      have HE := Lib.hid hend
      clear hend hy h1 hoc hof hpc hpf
      go_wp2_with fail
      go_quiet (fail)
      have hd := (Chg.refl No wr).drewN nq
      have B := B.keep hd
      have ho := ho.keep hd
      have hop := hop.keep hd
      have hch := hch.keep hd
      clear c0 c1 c2 c3 c4 hfb hfb4 hcc hfg hbl
      generalize wr.drewN nq = W at hd B ho hop hch ⊢
      obtain ⟨c0, c1, c2, c3, c4, hfb⟩ := id B
      go_wp2_with fail
      go_still_tail 17, (by kernel_rfl)
      change wpList _ _ _ _ _ W.drew
      have hd := (Chg.refl No W).drew
      have B := B.keep hd
      have ho := ho.keep hd
      have hop := hop.keep hd
      have hch := hch.keep hd
      clear c0 c1 c2 c3 c4 hfb
      generalize W.drew = W2 at hd B ho hop hch ⊢
      obtain ⟨o1, o2⟩ := hop.store q x
      have B1 := B.step o2 (fun e => hgpb e.symm)
      have ho1 := ho.step o2 (fun z hz e => hap z (own_slice.2 e) hz)
      have hch1 := hch.step o2 (fun z hz _ => .inr (.inl (own_slice.2 hz)))
      have hqm' : q < ps.length := by have := HPS.out; have := HLq.out; omega
      have hpc := hop.at.1 q hqm'
      have hpf := hop.at.2.1 q
      have hmc := ho1.at.1 q hqm
      have hmf := ho1.at.2.1 q
      have hog := ho1.at.2.2.2.1
      have hopg := hop.at.2.2.2.1
      obtain ⟨o3, o4⟩ := ho1.store q 1
      have B2 := B1.step o4 (fun e => hgb e.symm)
      have hop2 := o1.step o4 (fun z hz e => hap z hz (own_slice.2 e))
      have hch2 := hch1.step o4 (fun z hz _ => .inr (.inr (own_slice.2 hz)))
      clear o2 o4 B1 ho1 hch1 B ho hop hch
      go_wp2_with fail
      clear hpc hpf hmc hmf
      generalize (W2.setCell ⟨gp, q, none⟩ (.int .i64 x)).setCell ⟨g, q, none⟩ (.int .i64 1) = W3 at o3 B2 hop2 hch2 ⊢
      obtain ⟨c0, c1, c2, c3, c4, hfb⟩ := id B2
      have hfb4 := hfb 4
      have hbl := B2.lt
      go_still_tail 14, (by kernel_rfl)
      go_wp2_with fail
      have hdd := (Chg.refl No W3).drew
      go_end0
      rw [HE.out.1, HE.out.2, ← HPK.out]
      exact ⟨_, rfl, rfl, _, _, ⟨by rw [HPK.out]; exact (B2.keep hdd).set4 _, (hop2.keep hdd).set b 4 _ hd2, (o3.keep hdd).set b 4 _ hd3, hap, hd2, hd3⟩, (hch2.keep hdd).setCell (fun _ => .inl rfl) _, fun z hz => .inl hz⟩
/-- what is known in the midst of two appends -/
structure St (base b : Nat) (w : World) (x0 x1 x4 pv mv : Value) (W : World) (pv' : Value) (ps : List Int) (mv' : Value) (ms : List Int) : Prop where
  ch : Chg (foot b pv mv) w W
  box : Box W b x0 x1 pv mv x4
  p : OI base W pv' ps
  m : OI base W mv' ms
  ap : ∀ q, own pv' q → ¬ own mv' q
  dp : ¬ own pv' b
  dm : ¬ own mv' b
  fp : ∀ q, own pv' q → own pv q ∨ w.heap.size ≤ q
  fm : ∀ q, own mv' q → own mv q ∨ w.heap.size ≤ q
theorem St.keep {base b : Nat} {w : World} {x0 x1 x4 pv mv : Value} {W W' : World} {pv' : Value} {ps : List Int} {mv' : Value} {ms : List Int} (h : St base b w x0 x1 x4 pv mv W pv' ps mv' ms) (hc : Chg No W W') : St base b w x0 x1 x4 pv mv W' pv' ps mv' ms :=
  ⟨h.ch.keep hc, h.box.keep hc, h.p.keep hc, h.m.keep hc, h.ap, h.dp, h.dm, h.fp, h.fm⟩
theorem St.app1 {base b : Nat} {w : World} {x0 x1 x4 pv mv : Value} {W W' : World} {pv' : Value} {ps : List Int} {mv' : Value} {ms : List Int} (h : St base b w x0 x1 x4 pv mv W pv' ps mv' ms) {v : Value} {l : List Int} (ho : OI base W' v l) (hc : Chg (own pv') W W') (hf : ∀ q, own v q → own pv' q ∨ W.heap.size ≤ q) :
    St base b w x0 x1 x4 pv mv W' v l mv' ms := by
  have hz := h.ch.size
  refine ⟨h.ch.step hc (fun q hq hl => ?_), h.box.step hc h.dp, ho, h.m.step hc (fun q hq e => h.ap q e hq), fun q hq hq' => ?_, fun hq => ?_, h.dm, fun q hq => ?_, h.fm⟩
  · rcases h.fp q hq with h1 | h1
    · exact .inr (.inl h1)
    · omega
  · rcases hf q hq with h1 | h1
    · exact h.ap q h1 hq'
    · have := (h.m.lt q hq').2; omega
  · rcases hf b hq with h1 | h1
    · exact h.dp h1
    · have := h.box.lt; omega
  · rcases hf q hq with h1 | h1
    · exact h.fp q h1
    · exact .inr (by omega)
theorem St.app2 {base b : Nat} {w : World} {x0 x1 x4 pv mv : Value} {W W' : World} {pv' : Value} {ps : List Int} {mv' : Value} {ms : List Int} (h : St base b w x0 x1 x4 pv mv W pv' ps mv' ms) {v : Value} {l : List Int} (ho : OI base W' v l) (hc : Chg (own mv') W W') (hf : ∀ q, own v q → own mv' q ∨ W.heap.size ≤ q) :
    St base b w x0 x1 x4 pv mv W' pv' ps v l := by
  have hz := h.ch.size
  refine ⟨h.ch.step hc (fun q hq hl => ?_), h.box.step hc h.dm, h.p.step hc (fun q hq e => h.ap q hq e), ho, fun q hq hq' => ?_, h.dp, fun hq => ?_, h.fp, fun q hq => ?_⟩
  · rcases h.fm q hq with h1 | h1
    · exact .inr (.inr h1)
    · omega
  · rcases hf q hq' with h1 | h1
    · exact h.ap q hq h1
    · have := (h.p.lt q hq).2; omega
  · rcases hf b hq with h1 | h1
    · exact h.dm h1
    · have := h.box.lt; omega
  · rcases hf q hq with h1 | h1
    · exact h.fm q h1
    · exact .inr (by omega)
theorem RI.past {A : Nat → Prop} {W W' : World} {v : Value} {l : List Int} (h : RI A W v l) (hc : Chg A W W') : RI No W' v l := (h.step hc (fun _ e => e)).weak (fun _ e _ => e.elim)
theorem MC.st {base b : Nat} {w : World} {c : Ca} {pv mv : Value} (h : MC base w b c pv mv) : St base b w (.int .i64 c.pol) (.int .i64 c.size) (.int .i64 c.hand) pv mv w pv c.pages mv c.marks :=
  ⟨Chg.refl _ w, h.box, h.pages, h.marks, h.apart, h.d2, h.d3, fun _ e => .inl e, fun _ e => .inl e⟩
theorem St.done {base b : Nat} {w : World} {p k hd : Int} {pv mv : Value} {W : World} {pv' : Value} {ps : List Int} {mv' : Value} {ms : List Int} (h : St base b w (.int .i64 p) (.int .i64 k) (.int .i64 hd) pv mv W pv' ps mv' ms) :
    After base w b pv mv ⟨p, k, ps, ms, hd⟩ ((W.setCell ⟨b, 2, none⟩ pv').setCell ⟨b, 3, none⟩ mv') :=
  ⟨_, _, ⟨(h.box.set2 _).set3 _, (h.p.set b 2 _ h.dp).set b 3 _ h.dp, (h.m.set b 2 _ h.dm).set b 3 _ h.dm, h.ap, h.dp, h.dm⟩, (h.ch.setCell (fun _ => .inl rfl) _).setCell (fun _ => .inl rfl) _,
    fun q hq => by
      rcases hq with rfl | hq | hq
      · exact .inl (.inl rfl)
      · rcases h.fp q hq with h1 | h1
        · exact .inl (.inr (.inl h1))
        · exact .inr h1
      · rcases h.fm q hq with h1 | h1
        · exact .inl (.inr (.inr h1))
        · exact .inr h1⟩

set_option maxRecDepth 100000 in
set_option maxHeartbeats 2000000 in
theorem turn_room (base b : Nat) (k : Int) (ps ms : List Int) (hd x : Int) (pv mv : Value) (w : World) (h : MC base w b ⟨6, k, ps, ms, hd⟩ pv mv) (hb : base ≤ w.heap.size) (hk : k ≤ 6) (hf : Hid ((ps.length : Int) < k)) (hml : Hid (ms.length = ps.length)) :
    Calls Tryz.prog 61 #[.pointer (some ⟨b, 0, none⟩), .int .i64 x] w (Ret fun v' w' => v' = .tuple #[] ∧ After base w b pv mv (clockC ⟨6, k, ps, ms, hd⟩ x) w') := by
  have e : clockC ⟨6, k, ps, ms, hd⟩ x = ⟨6, k, ps ++ [x], ms ++ [1], hd⟩ := by simp [clockC, hf.out]
  rw [e]; clear e
  have s0 := h.st
  obtain ⟨hbox, hp, hm, hap, hd2, hd3⟩ := h
  simp only at hbox hp hm s0
  have hpl : ps.length + [x].length ≤ 17592186044416 := by have := hf.out; simp; omega
  have hml : ms.length + [(1 : Int)].length ≤ 17592186044416 := by have := hf.out; have := hml.out; simp; omega
  obtain ⟨a, n, cap, rfl⟩ := hp.shape
  obtain ⟨a', n', cap', rfl⟩ := hm.shape
  obtain ⟨c0, c1, c2, c3, c4, hfb⟩ := id hbox
  go_enter Tryz.func61, Tryz.ntmps61
  go_wp2_with fail
  refine (isFull_any 6 k _ _ hd ps No _ hp.readNo ⟨_, _, _, rfl⟩).mono ?_
  rintro e w1 ⟨v1, rfl, rfl, hk1⟩
  have hfull : ((ps.length : Int) == k) = false := by have := hf.out; simp; omega
  have s1 := s0.keep hk1
  have hz1 := hk1.size
  have hb1 : base ≤ w1.heap.size := Nat.le_trans hb hz1
  clear c0 c1 c2 c3 c4 hfb hbox hp hm s0 hk1
  go_wp2_with fail
  obtain ⟨c0, c1, c2, c3, c4, hfb⟩ := id s1.box
  -- REGION
  refine wp_region_K (S := fun W => W.cell? ⟨b, 2, none⟩ = some (.slice a n cap) ∧ W.cell? ⟨b, 3, none⟩ = some (.slice a' n' cap')) (k := 15) (by kernel_rfl) ?_
  have s := s1.keep (Chg.refl No w1).drew
  clear s1
  generalize w1.drew = W at s ⊢
  have hS : (fun W : World => W.cell? ⟨b, 2, none⟩ = some (.slice a n cap) ∧ W.cell? ⟨b, 3, none⟩ = some (.slice a' n' cap')) W := ⟨s.box.c2, s.box.c3⟩
  refine wpAnyK_take0 0 (.pointer (some ⟨b, 0, none⟩)) rfl (by kernel_rfl) (fun _ _ _ h => h) hS rfl (by intro w; go_simp) ?_
  simp only [List.getElem_toArray, List.getElem_cons_zero, Act.put, List.setIfInBounds_toArray, List.set_cons_zero, List.set_cons_succ]
  refine wpAnyK_take0 1 (.pointer (some ⟨b, 0, none⟩)) rfl (by kernel_rfl) (fun _ _ _ h => h) hS rfl (by intro w; go_simp) ?_
  simp only [List.getElem_toArray, List.getElem_cons_succ, List.getElem_cons_zero, Act.put, List.setIfInBounds_toArray, List.set_cons_zero, List.set_cons_succ]
  refine wpAnyK_take0 2 (.pointer (some ⟨b, 0, none⟩)) rfl (by kernel_rfl) (fun _ _ _ h => h) hS rfl (by intro w; go_simp) ?_
  simp only [List.getElem_toArray, List.getElem_cons_succ, List.getElem_cons_zero, Act.put, List.setIfInBounds_toArray, List.set_cons_zero, List.set_cons_succ]
  refine wpAnyK_take0 3 (.pointer (some ⟨b, 0, none⟩)) rfl (by kernel_rfl) (fun _ _ _ h => h) hS rfl (by intro w; go_simp) ?_
  simp only [List.getElem_toArray, List.getElem_cons_succ, List.getElem_cons_zero, Act.put, List.setIfInBounds_toArray, List.set_cons_zero, List.set_cons_succ]
  refine wpAnyK_take0 4 (.pointer (some ⟨b, 2, none⟩)) rfl (by kernel_rfl) (fun _ _ _ h => h) hS rfl (by intro w; go_simp) ?_
  simp only [List.getElem_toArray, List.getElem_cons_succ, List.getElem_cons_zero, Act.put, List.setIfInBounds_toArray, List.set_cons_zero, List.set_cons_succ]
  refine wpAnyK_take 5 (.slice a n cap) rfl (by kernel_rfl) (fun _ _ _ h => h) hS rfl (by intro w hSw; obtain ⟨hSw2, hSw3⟩ := hSw; go_simp) ?_
  simp only [List.getElem_toArray, List.getElem_cons_succ, List.getElem_cons_zero, Act.put, List.setIfInBounds_toArray, List.set_cons_zero, List.set_cons_succ]
  refine wpAnyK_take0 6 (.int .i64 x) rfl (by kernel_rfl) (fun _ _ _ h => h) hS rfl (by intro w; go_simp) ?_
  simp only [List.getElem_toArray, List.getElem_cons_succ, List.getElem_cons_zero, Act.put, List.setIfInBounds_toArray, List.set_cons_zero, List.set_cons_succ]
  refine wpAnyK_take0 9 (.pointer (some ⟨b, 0, none⟩)) rfl (by kernel_rfl) (fun _ _ _ h => h) hS rfl (by intro w; go_simp) ?_
  simp only [List.getElem_toArray, List.getElem_cons_succ, List.getElem_cons_zero, Act.put, List.setIfInBounds_toArray, List.set_cons_zero, List.set_cons_succ]
  refine wpAnyK_take0 10 (.pointer (some ⟨b, 0, none⟩)) rfl (by kernel_rfl) (fun _ _ _ h => h) hS rfl (by intro w; go_simp) ?_
  simp only [List.getElem_toArray, List.getElem_cons_succ, List.getElem_cons_zero, Act.put, List.setIfInBounds_toArray, List.set_cons_zero, List.set_cons_succ]
  refine wpAnyK_take0 11 (.pointer (some ⟨b, 3, none⟩)) rfl (by kernel_rfl) (fun _ _ _ h => h) hS rfl (by intro w; go_simp) ?_
  simp only [List.getElem_toArray, List.getElem_cons_succ, List.getElem_cons_zero, Act.put, List.setIfInBounds_toArray, List.set_cons_zero, List.set_cons_succ]
  refine wpAnyK_take 12 (Value.slice a' n' cap') rfl (by kernel_rfl) (fun _ _ _ h => h) hS rfl (by intro w hSw; obtain ⟨hSw2, hSw3⟩ := hSw; go_simp) ?_
  simp only [List.getElem_toArray, List.getElem_cons_succ, List.getElem_cons_zero, Act.put, List.setIfInBounds_toArray, List.set_cons_zero, List.set_cons_succ]
  clear hS
  refine wpAnyK_2 7 13 (by kernel_rfl) (wpOpK' rfl rfl ?_) (wpOpK' rfl rfl ?_)
  · intro K hK
    simp only [List.getElem_toArray, List.getElem_cons_succ, List.getElem_cons_zero]
    refine obuild (.tmp 15) x rfl rfl (fun g1 W' k hg hlt => hK.out _ _ ?_ ?_)
    · exact ⟨(s.keep k).box.c2, (s.keep k).box.c3⟩
    have r1 := RI.one hg (Nat.le_refl 1) (by decide) (A := own _) (fun e => by have := (s.m.lt _ e).2; omega)
    have s := s.keep k
    clear hK K
    simp only [Act.put, List.setIfInBounds_toArray, List.set_cons_zero, List.set_cons_succ]
    refine wpAnyK_2 8 13 (by kernel_rfl) (wpOpK' rfl rfl ?_) (wpOpK' rfl rfl ?_)
    · intro K hK
      simp only [List.getElem_toArray, List.getElem_cons_succ, List.getElem_cons_zero]
      refine oapp (.tmp 14) (.tmp 16) rfl s.p (r1.weak (fun _ e _ => e.elim)) rfl rfl hpl (Nat.le_trans hb s.ch.size) (fun v W' h1 k1 o1 => hK.out _ _ ?_ ?_)
      · exact ⟨(s.app1 h1 k1 o1).box.c2, (s.app1 h1 k1 o1).box.c3⟩
      have s := s.app1 h1 k1 o1
      clear hK K
      simp only [Act.put, List.setIfInBounds_toArray, List.set_cons_zero, List.set_cons_succ]
      refine wpAnyK_1 13 (by kernel_rfl) (wpOpK' rfl rfl ?_)
      intro K hK
      simp only [List.getElem_toArray, List.getElem_cons_succ, List.getElem_cons_zero]
      refine obuild (.const (.int .i64 1)) 1 rfl rfl (fun g2 W' k hg hlt => hK.out _ _ ?_ ?_)
      · exact ⟨(s.keep k).box.c2, (s.keep k).box.c3⟩
      have r2 := RI.one hg (Nat.le_refl 1) (by decide) (A := own _) (fun e => by have := (s.p.lt _ e).2; omega)
      have s := s.keep k
      clear hK K
      simp only [Act.put, List.setIfInBounds_toArray, List.set_cons_zero, List.set_cons_succ]
      refine wpAnyK_1 14 (by kernel_rfl) (wpOpK' rfl rfl ?_)
      intro K hK
      simp only [List.getElem_toArray, List.getElem_cons_succ, List.getElem_cons_zero]
      refine oapp (.tmp 21) (.tmp 22) rfl s.m (r2.weak (fun _ e _ => e.elim)) rfl rfl hml (Nat.le_trans hb s.ch.size) (fun v W' h1 k1 o1 => hK.out _ _ ?_ ?_)
      · exact ⟨(s.app2 h1 k1 o1).box.c2, (s.app2 h1 k1 o1).box.c3⟩
      have s := s.app2 h1 k1 o1
      clear hK K
      simp only [Act.put, List.setIfInBounds_toArray, List.set_cons_zero, List.set_cons_succ]
      obtain ⟨_, _, _, rfl⟩ := s.p.shape
      obtain ⟨_, _, _, rfl⟩ := s.m.shape
      have z2 := s.box.c2
      have z3 := s.box.c3
      have y2 := s.box.fr 2
      have y3 := s.box.fr 3
      refine wpAnyK_tail 15 rfl (by kernel_rfl) ?_
      simp only [List.drop_succ_cons, List.drop_zero]
      go_wp2
      go_end0
      exact ⟨_, rfl, rfl, s.done⟩
    · intro K hK
      simp only [List.getElem_toArray, List.getElem_cons_succ, List.getElem_cons_zero]
      refine obuild (.const (.int .i64 1)) 1 rfl rfl (fun g2 W' k hg hlt => hK.out _ _ ?_ ?_)
      · exact ⟨(s.keep k).box.c2, (s.keep k).box.c3⟩
      have r2 := RI.one hg (Nat.le_refl 1) (by decide) (A := own _) (fun e => by have := (s.p.lt _ e).2; omega)
      have r1 := r1.keep k
      have s := s.keep k
      clear hK K
      simp only [Act.put, List.setIfInBounds_toArray, List.set_cons_zero, List.set_cons_succ]
      refine wpAnyK_1 8 (by kernel_rfl) (wpOpK' rfl rfl ?_)
      intro K hK
      simp only [List.getElem_toArray, List.getElem_cons_succ, List.getElem_cons_zero]
      refine oapp (.tmp 14) (.tmp 16) rfl s.p (r1.weak (fun _ e _ => e.elim)) rfl rfl hpl (Nat.le_trans hb s.ch.size) (fun v W' h1 k1 o1 => hK.out _ _ ?_ ?_)
      · exact ⟨(s.app1 h1 k1 o1).box.c2, (s.app1 h1 k1 o1).box.c3⟩
      have r2 := r2.past k1
      have s := s.app1 h1 k1 o1
      clear hK K
      simp only [Act.put, List.setIfInBounds_toArray, List.set_cons_zero, List.set_cons_succ]
      refine wpAnyK_1 14 (by kernel_rfl) (wpOpK' rfl rfl ?_)
      intro K hK
      simp only [List.getElem_toArray, List.getElem_cons_succ, List.getElem_cons_zero]
      refine oapp (.tmp 21) (.tmp 22) rfl s.m (r2.weak (fun _ e _ => e.elim)) rfl rfl hml (Nat.le_trans hb s.ch.size) (fun v W' h1 k1 o1 => hK.out _ _ ?_ ?_)
      · exact ⟨(s.app2 h1 k1 o1).box.c2, (s.app2 h1 k1 o1).box.c3⟩
      have s := s.app2 h1 k1 o1
      clear hK K
      simp only [Act.put, List.setIfInBounds_toArray, List.set_cons_zero, List.set_cons_succ]
      obtain ⟨_, _, _, rfl⟩ := s.p.shape
      obtain ⟨_, _, _, rfl⟩ := s.m.shape
      have z2 := s.box.c2
      have z3 := s.box.c3
      have y2 := s.box.fr 2
      have y3 := s.box.fr 3
      refine wpAnyK_tail 15 rfl (by kernel_rfl) ?_
      simp only [List.drop_succ_cons, List.drop_zero]
      go_wp2
      go_end0
      exact ⟨_, rfl, rfl, s.done⟩
  · intro K hK
    simp only [List.getElem_toArray, List.getElem_cons_succ, List.getElem_cons_zero]
    refine obuild (.const (.int .i64 1)) 1 rfl rfl (fun g2 W' k hg hlt => hK.out _ _ ?_ ?_)
    · exact ⟨(s.keep k).box.c2, (s.keep k).box.c3⟩
    have r2 := RI.one hg (Nat.le_refl 1) (by decide) (A := own _) (fun e => by have := (s.p.lt _ e).2; omega)
    have s := s.keep k
    clear hK K
    simp only [Act.put, List.setIfInBounds_toArray, List.set_cons_zero, List.set_cons_succ]
    refine wpAnyK_1 7 (by kernel_rfl) (wpOpK' rfl rfl ?_)
    intro K hK
    simp only [List.getElem_toArray, List.getElem_cons_succ, List.getElem_cons_zero]
    refine obuild (.tmp 15) x rfl rfl (fun g1 W' k hg hlt => hK.out _ _ ?_ ?_)
    · exact ⟨(s.keep k).box.c2, (s.keep k).box.c3⟩
    have r1 := RI.one hg (Nat.le_refl 1) (by decide) (A := own _) (fun e => by have := (s.m.lt _ e).2; omega)
    have r2 := r2.keep k
    have s := s.keep k
    clear hK K
    simp only [Act.put, List.setIfInBounds_toArray, List.set_cons_zero, List.set_cons_succ]
    refine wpAnyK_1 8 (by kernel_rfl) (wpOpK' rfl rfl ?_)
    intro K hK
    simp only [List.getElem_toArray, List.getElem_cons_succ, List.getElem_cons_zero]
    refine oapp (.tmp 14) (.tmp 16) rfl s.p (r1.weak (fun _ e _ => e.elim)) rfl rfl hpl (Nat.le_trans hb s.ch.size) (fun v W' h1 k1 o1 => hK.out _ _ ?_ ?_)
    · exact ⟨(s.app1 h1 k1 o1).box.c2, (s.app1 h1 k1 o1).box.c3⟩
    have r2 := r2.past k1
    have s := s.app1 h1 k1 o1
    clear hK K
    simp only [Act.put, List.setIfInBounds_toArray, List.set_cons_zero, List.set_cons_succ]
    refine wpAnyK_1 14 (by kernel_rfl) (wpOpK' rfl rfl ?_)
    intro K hK
    simp only [List.getElem_toArray, List.getElem_cons_succ, List.getElem_cons_zero]
    refine oapp (.tmp 21) (.tmp 22) rfl s.m (r2.weak (fun _ e _ => e.elim)) rfl rfl hml (Nat.le_trans hb s.ch.size) (fun v W' h1 k1 o1 => hK.out _ _ ?_ ?_)
    · exact ⟨(s.app2 h1 k1 o1).box.c2, (s.app2 h1 k1 o1).box.c3⟩
    have s := s.app2 h1 k1 o1
    clear hK K
    simp only [Act.put, List.setIfInBounds_toArray, List.set_cons_zero, List.set_cons_succ]
    obtain ⟨_, _, _, rfl⟩ := s.p.shape
    obtain ⟨_, _, _, rfl⟩ := s.m.shape
    have z2 := s.box.c2
    have z3 := s.box.c3
    have y2 := s.box.fr 2
    have y3 := s.box.fr 3
    refine wpAnyK_tail 15 rfl (by kernel_rfl) ?_
    simp only [List.drop_succ_cons, List.drop_zero]
    go_wp2
    go_end0
    exact ⟨_, rfl, rfl, s.done⟩

theorem turn_any (base b : Nat) (c : Ca) (x : Int) (pv mv : Value) (w : World) (h : MC base w b c pv mv) (hb : base ≤ w.heap.size) (hok : Ok c) (h6 : c.pol = 6) :
    Calls Tryz.prog 61 #[.pointer (some ⟨b, 0, none⟩), .int .i64 x] w (Ret fun v' w' => v' = .tuple #[] ∧ After base w b pv mv (clockC c x) w') := by
  have hs := hok.size
  have hl := hok.len
  have hm := hok.marks (.inr h6)
  obtain ⟨p, k, ps, ms, hd⟩ := c
  simp only at h6 hs hl hm
  subst h6
  by_cases hc : (ps.length : Int) = k
  · exact turn_full base b k ps ms hd x pv mv w h hok (Lib.hid hc)
  · exact turn_room base b k ps ms hd x pv mv w h hb hs.2 (Lib.hid (by omega)) (Lib.hid hm)
end Go.Proofs.YtdgcohoneijleaaGreat
