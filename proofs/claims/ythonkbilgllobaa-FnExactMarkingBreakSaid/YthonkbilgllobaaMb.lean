import Derived.Test.YthonkbilgllobaaVi
/- MarkingBreak of the reference -/
namespace Go.Proofs.Ythonkbilgllobaa
open Go.RowKit

/-- single operations, in whatever frame -/
theorem idx_run {a : Act} {o : Oper} (s i : Operand) (ho : o.op = .indexAddr 22 s i) {b off n cap j : Nat} (hs : a.eval s = .slice (some ⟨b, off, none⟩) n cap) (hi : a.eval i = .int .i64 (j : Int)) (hj : j < n) (w : World) :
    (execOp a.eval o).run Try.prog w = .ok (.value (.pointer (some ⟨b, off + j, none⟩))) w := by
  have h0 : (0 : Int) ≤ (j : Int) := Int.natCast_nonneg _
  have h1 : (j : Int) < (n : Int) := by omega
  unfold execOp
  simp only [ho, hs, hi]
  go_simp
theorem ldi_run {a : Act} {o : Oper} (s : Operand) (ho : o.op = .load 3 s) {p : Addr} {y : Int} (hs : a.eval s = .pointer (some p)) (w : World) (hc : w.cell? p = some (.int .i64 y)) :
    (execOp a.eval o).run Try.prog w = .ok (.value (.int .i64 y)) w := by
  unfold execOp
  simp only [ho, hs]
  go_simp
theorem ldc_run {a : Act} {o : Oper} (s : Operand) (ho : o.op = .load 37 s) {b : Nat} {x0 x1 x4 : Int} {a2 a3 : Option Addr} {n2 q2 n3 q3 : Nat} (hs : a.eval s = .pointer (some ⟨b, 0, none⟩)) (w : World) (hc : Box w b (.int .i64 x0) (.int .i64 x1) (.slice a2 n2 q2) (.slice a3 n3 q3) (.int .i64 x4)) :
    (execOp a.eval o).run Try.prog w = .ok (.value (.agg #[.int .i64 x0, .int .i64 x1, .slice a2 n2 q2, .slice a3 n3 q3, .int .i64 x4])) w := by
  obtain ⟨c0, c1, c2, c3, c4, fr⟩ := hc
  unfold execOp
  simp only [ho, hs]
  go_simp
theorem slc_run {a : Act} {o : Oper} (s i j : Operand) (ho : o.op = .slice 22 s (some i) (some j) none) {v vi vj x : Value} (hs : a.eval s = v) (hi : a.eval i = vi) (hj : a.eval j = vj) (hx : ∀ w, (Instr.slice 22 v (some vi) (some vj) none).run Try.prog w = .ok x w) (w : World) :
    (execOp a.eval o).run Try.prog w = .ok (.value x) w := by
  unfold execOp
  simp only [ho, hs, hi, hj, Option.map_some, Option.map_none]
  have := hx w
  go_simp

set_option maxRecDepth 100000 in
set_option maxHeartbeats 2000000 in
theorem specMarkingBreak_any (n p k : Int) (v : Value) (l : List Int) (w : World) (hv : RI No w v l) :
    Calls Try.prog 33 #[.int .i64 n, .int .i64 p, .int .i64 k, v] w (Ret2 fun v0 v1 w' => v0 = .int .i64 (idxOr0 (markV n p k l)) ∧ v1 = .bool (markV n p k l).isSome ∧ Chg No w w') := by
  cases hh : askedB n p k l
  · have HA : Hid (markV n p k l = none) := Lib.hid (by unfold markV; rw [hh]; rfl)
    have HH := Lib.hid hh
    clear hh
    go_enter Try.func33, Try.ntmps33
    go_wp2_with fail
    refine (l4Asked_any No _ l n p k w hv).mono ?_
    rintro e w1 ⟨rfl, rfl⟩
    rw [show (inB p 1 7 && inB k 1 6 && (inB n 1 8 && decide (l.length ≤ 60) && belowB n l)) = false from HH.out]
    go_wp2_with fail
    go_ret2
    exact ⟨_, _, rfl, by rw [HA.out]; rfl, by rw [HA.out]; rfl, Chg.refl No w⟩
  · have HA : Hid (markV n p k l = firstN (breakB p k l) l.length) := Lib.hid (by unfold markV; rw [hh]; rfl)
    have hok := askedB_ok hh
    have hl60 : l.length ≤ 1000000 := by
      simp only [askedB, Bool.and_eq_true, decide_eq_true_eq] at hh
      omega
    have HH := Lib.hid hh
    obtain ⟨c, hc0⟩ : ∃ c, newC p k = c := ⟨_, rfl⟩
    have HC0 := Lib.hid hc0
    have HBR : Hid (∀ j, breakB p k l j = comB (victL (runC c (l.take j)) (l.getD j 0)) ((l.take j).drop (startP k l (j + 1)))) := Lib.hid (fun j => by rw [← hc0]; rfl)
    obtain ⟨a, cap, rfl, hcap, hmax, hlen, _, hc⟩ := id hv
    clear hh
    go_enter Try.func33, Try.ntmps33
    go_wp2_with fail
    refine (l4Asked_any No _ l n p k w hv).mono ?_
    rintro e w1 ⟨rfl, rfl⟩
    rw [show (inB p 1 7 && inB k 1 6 && (inB n 1 8 && decide (l.length ≤ 60) && belowB n l)) = true from HH.out]
    go_wp2_with fail
    refine (l4Phases_any No k _ l w hv hl60).mono ?_
    rintro e w1 ⟨vp, rfl, op, kp⟩
    have hph := op.readNo
    obtain ⟨fa, fc, rfl, _⟩ := op.view
    clear op
    go_wp2_with fail
    refine (l4New_any p k w1).mono ?_
    rintro e w2 ⟨v2, rfl, hrc, k2⟩
    obtain ⟨pv0, mv0, rfl, hp0, hm0⟩ := hrc (fun q => q < w1.heap.size) (fun q hq => by have := k2.size; omega)
    rw [hc0] at hp0 hm0 hok ⊢
    obtain ⟨pa, pn, pc, rfl⟩ := hp0.shape
    obtain ⟨ma, mn, mc, rfl⟩ := hm0.shape
    have hph2 := hph.keep k2
    have ch2 := kp.keep k2
    have hbx := Box.new w2 (.int .i64 c.pol) (.int .i64 c.size) (.slice pa pn pc) (.slice ma mn mc) (.int .i64 c.hand) 37
    clear hrc hc0
    go_wp2_with fail
    go_loopw [12, 13] (fun s i wr => ∃ (j : Nat) (pv mv : Value) (B : Nat → Prop), j ≤ l.length ∧ i = .int .i64 j ∧ s = .int .i64 (startP k l j : Int) ∧ B w2.heap.size ∧ Bd B wr ∧ NoneTo (breakB p k l) j ∧
        Box wr w2.heap.size (.int .i64 (runC c (l.take j)).pol) (.int .i64 (runC c (l.take j)).size) pv mv (.int .i64 (runC c (l.take j)).hand) ∧
        RI B wr pv (runC c (l.take j)).pages ∧ RI B wr mv (runC c (l.take j)).marks ∧ Chg No w2 wr) (fun _ i _ => l.length - (intOf i).toNat)
    case atStart =>
      refine ⟨0, .slice pa pn pc, .slice ma mn mc, fun q => q = w2.heap.size, Nat.zero_le _, rfl, rfl, rfl, fun q hq => ?_, NoneTo.zero _, hbx, ?_, ?_, (Chg.refl No w2).alloc _⟩
      · rw [World.size_alloc]; omega
      · exact hp0.to ((Chg.refl No w2).alloc _) (fun _ e => e.elim) (fun q hq => .inr (by omega))
      · exact hm0.to ((Chg.refl No w2).alloc _) (fun _ e => e.elim) (fun q hq => .inr (by omega))
    case round =>
      obtain ⟨j, pv, mv, B, hj, rfl, rfl, hNB, hB, hno, hbox, hp', hm', hch⟩ := hrel
      obtain ⟨pa', pn', pc', rfl⟩ := hp'.shape
      obtain ⟨ma', mn', mc', rfl⟩ := hm'.shape
      obtain ⟨ck, hck⟩ : ∃ ck, runC c (l.take j) = ck := ⟨_, rfl⟩
      have hokk : Ok ck := hck ▸ ok_run hok _
      rw [hck] at hbox hp' hm'
      by_cases hlt : j < l.length
      · obtain ⟨b, off, rfl, _, hb, hcell⟩ := hc (by intro e; simp [e] at hlt)
        have hrun := runC_snoc c l j hlt
        rw [hck] at hrun
        obtain ⟨y, hy⟩ : ∃ y, l[j] = y := ⟨_, rfl⟩
        have hcw := ch2.keep hch
        have hcl := (hcw.cellD b (off + j) hb (fun e => e)).trans (hcell j hlt)
        have hgy : l.getD j 0 = y := by rw [← hy, List.getD_eq_getElem?_getD, List.getElem?_eq_getElem hlt]; rfl
        rw [hgy] at hcl
        rw [hy] at hrun
        have hbr : breakB p k l j = comB (victL ck y) ((l.take j).drop (startP k l (j + 1))) := by rw [HBR.out, hck, hgy]
        have hhas := phF_has k l l.length j
        rw [show decide (j < l.length) = true by simpa using hlt, Bool.true_and] at hhas
        have hss := startP_succ k l j
        have hslt := startP_lt k l j
        obtain ⟨s0, hs0⟩ : ∃ s0, startP k l j = s0 := ⟨_, rfl⟩
        obtain ⟨s1, hs1⟩ : ∃ s1, startP k l (j + 1) = s1 := ⟨_, rfl⟩
        rw [hs0] at hss ⊢
        rw [hs1] at hss hslt hbr
        obtain ⟨vl, hvl⟩ : ∃ vl, victL ck y = vl := ⟨_, rfl⟩
        rw [hvl] at hbr
        have HR := Lib.hid hrun
        have HBJ := Lib.hid hbr
        have HSS := Lib.hid hss
        have HS1 := Lib.hid hs1
        have HVL := Lib.hid hvl
        clear hcell hc hrun hck hgy hy hbr hss hs0 hs1 hvl
        have hj0 : (0 : Int) ≤ (j : Int) := Int.natCast_nonneg _
        have hj1 : (j : Int) < (l.length : Int) := by omega
        have hw1 : IntKind.i64.wrap ((j : Int) + 1) = (j : Int) + 1 := IntWalk.i64_in _ (by omega)
        have hrw := (hv.keep hcw)
        obtain ⟨x, hx, hRx⟩ := hrw.mid s1 j (s1 : Int) (j : Int) rfl rfl hslt (by omega)
        go_wp2_with fail
        refine (l1Has_any No _ _ (j : Int) wr (hph2.keep hch)).mono ?_
        rintro e w' ⟨rfl, rfl⟩
        rw [hhas]
        have HHS := Lib.hid hhas
        clear hhas
        cases hnb : newB k l j
        · have hse : s0 = s1 := by have e := HSS.out; rw [hnb] at e; exact e.symm
          clear HSS
          subst hse
          have HNBJ := Lib.hid hnb
          clear hnb
          dsimp only
          go_wp2_with fail
          refine wp_region_K (S := fun W => Box W w2.heap.size (.int .i64 ck.pol) (.int .i64 ck.size) (.slice pa' pn' pc') (.slice ma' mn' mc') (.int .i64 ck.hand) ∧ W.cell? ⟨b, off + j, none⟩ = some (.int .i64 y)) (k := 5) (by kernel_rfl) ?_
          have d0 : Chg No wr wr.drew := (Chg.refl No wr).drew
          have hS : (fun W : World => Box W w2.heap.size (.int .i64 ck.pol) (.int .i64 ck.size) (.slice pa' pn' pc') (.slice ma' mn' mc') (.int .i64 ck.hand) ∧ W.cell? ⟨b, off + j, none⟩ = some (.int .i64 y)) wr.drew := ⟨hbox.keep d0, (d0.cellD b (off + j) (Nat.lt_of_lt_of_le hb hcw.size) (fun e => e)).trans hcl⟩
          have hp1 := hp'.keep d0
          have hm1 := hm'.keep d0
          have hR1 := hRx.keep d0
          have hch1 := hch.keep d0
          have hcw1 := hcw.keep d0
          have hB1 := hB.keep d0
          clear hcl hbox hp' hm' hB hcw hch hRx hrw
          generalize wr.drew = W at hS hp1 hm1 hR1 hch1 hcw1 hB1 ⊢
          clear d0
          refine wpAnyK_take0 1 (.slice (some ⟨b, off, none⟩) l.length cap) rfl (by kernel_rfl) (fun _ _ _ h => h) hS rfl (fun w => by kernel_rfl) ?_
          simp only [List.getElem_toArray, List.getElem_cons_succ, List.getElem_cons_zero, Act.put, List.setIfInBounds_toArray, List.set_cons_zero, List.set_cons_succ]
          refine wpAnyK_take0 2 (.int .i64 (j : Int)) rfl (by kernel_rfl) (fun _ _ _ h => h) hS rfl (fun w => by kernel_rfl) ?_
          simp only [List.getElem_toArray, List.getElem_cons_succ, List.getElem_cons_zero, Act.put, List.setIfInBounds_toArray, List.set_cons_zero, List.set_cons_succ]
          refine wpAnyK_take0 3 (.pointer (some ⟨b, off + j, none⟩)) rfl (by kernel_rfl) (fun _ _ _ h => h) hS rfl (fun w => idx_run (.tmp 37) (.tmp 38) rfl rfl rfl hlt w) ?_
          simp only [List.getElem_toArray, List.getElem_cons_succ, List.getElem_cons_zero, Act.put, List.setIfInBounds_toArray, List.set_cons_zero, List.set_cons_succ]
          refine wpAnyK_take0 6 (.slice (some ⟨b, off, none⟩) l.length cap) rfl (by kernel_rfl) (fun _ _ _ h => h) hS rfl (fun w => by kernel_rfl) ?_
          simp only [List.getElem_toArray, List.getElem_cons_succ, List.getElem_cons_zero, Act.put, List.setIfInBounds_toArray, List.set_cons_zero, List.set_cons_succ]
          refine wpAnyK_take0 7 (.int .i64 (s0 : Int)) rfl (by kernel_rfl) (fun _ _ _ h => h) hS rfl (fun w => by kernel_rfl) ?_
          simp only [List.getElem_toArray, List.getElem_cons_succ, List.getElem_cons_zero, Act.put, List.setIfInBounds_toArray, List.set_cons_zero, List.set_cons_succ]
          refine wpAnyK_take0 8 (.int .i64 (j : Int)) rfl (by kernel_rfl) (fun _ _ _ h => h) hS rfl (fun w => by kernel_rfl) ?_
          simp only [List.getElem_toArray, List.getElem_cons_succ, List.getElem_cons_zero, Act.put, List.setIfInBounds_toArray, List.set_cons_zero, List.set_cons_succ]
          refine wpAnyK_take0 9 (x) rfl (by kernel_rfl) (fun _ _ _ h => h) hS rfl (fun w => slc_run (v := .slice (some ⟨b, off, none⟩) l.length cap) (vi := .int .i64 (s0 : Int)) (vj := .int .i64 (j : Int)) (.tmp 42) (.tmp 43) (.tmp 44) rfl rfl rfl rfl hx w) ?_
          simp only [List.getElem_toArray, List.getElem_cons_succ, List.getElem_cons_zero, Act.put, List.setIfInBounds_toArray, List.set_cons_zero, List.set_cons_succ]
          refine wpAnyK_take 4 (.int .i64 y) rfl (by kernel_rfl) (fun _ _ _ h => h) hS rfl (fun w hw => ldi_run (.tmp 39) rfl rfl w hw.2) ?_
          simp only [List.getElem_toArray, List.getElem_cons_succ, List.getElem_cons_zero, Act.put, List.setIfInBounds_toArray, List.set_cons_zero, List.set_cons_succ]
          refine wpAnyK_take 0 (.agg #[.int .i64 ck.pol, .int .i64 ck.size, .slice pa' pn' pc', .slice ma' mn' mc', .int .i64 ck.hand]) rfl (by kernel_rfl) (fun _ _ _ h => h) hS rfl (fun w hw => ldc_run (.tmp 11) rfl rfl w hw.1) ?_
          simp only [List.getElem_toArray, List.getElem_cons_zero, Act.put, List.setIfInBounds_toArray, List.set_cons_zero, List.set_cons_succ]
          refine wpAnyK_1 5 (by kernel_rfl) (wpOpK' rfl rfl ?_)
          intro K hK
          refine ocall (f := 56) (args := #[.agg #[.int .i64 ck.pol, .int .i64 ck.size, .slice pa' pn' pc', .slice ma' mn' mc', .int .i64 ck.hand], .int .i64 y]) (by kernel_rfl) (l4Victims_any B _ ck y W ⟨_, _, rfl, hp1, hm1⟩ hokk) (fun v1 W1 h1 => hK.out _ _ ⟨hS.1.keep h1.2, (h1.2.cellD b (off + j) (Nat.lt_of_lt_of_le hb hcw1.size) (fun e => e)).trans hS.2⟩ ?_)
          have hS1 : (fun W : World => Box W w2.heap.size (.int .i64 ck.pol) (.int .i64 ck.size) (.slice pa' pn' pc') (.slice ma' mn' mc') (.int .i64 ck.hand) ∧ W.cell? ⟨b, off + j, none⟩ = some (.int .i64 y)) W1 := ⟨hS.1.keep h1.2, (h1.2.cellD b (off + j) (Nat.lt_of_lt_of_le hb hcw1.size) (fun e => e)).trans hS.2⟩
          obtain ⟨o1, k1⟩ := h1
          rw [HVL.out] at o1
          clear hK K hS
          obtain ⟨a1, n1, q1, rfl⟩ := o1.shape
          simp only [List.getElem_toArray, List.getElem_cons_succ, List.getElem_cons_zero, Act.put, List.setIfInBounds_toArray, List.set_cons_zero, List.set_cons_succ]
          refine wpAnyK_1 10 (by kernel_rfl) (wpOpK' rfl rfl ?_)
          intro K hK
          refine ocall (f := 71) (args := #[.slice a1 n1 q1, x]) (φ := fun v w' => v = .bool (comB vl ((l.take j).drop s0)) ∧ W1 = w') (by kernel_rfl) ((l4Common_any No No _ x _ _ W1 o1.readNo (hR1.keep k1)).mono (fun e w' h => ⟨_, h.1, rfl, h.2⟩)) (fun v2 W2 h2 => hK.out _ _ (h2.2 ▸ hS1) ?_)
          obtain ⟨rfl, rfl⟩ := h2
          clear hK K
          simp only [List.getElem_toArray, List.getElem_cons_succ, List.getElem_cons_zero, Act.put, List.setIfInBounds_toArray, List.set_cons_zero, List.set_cons_succ]
          refine ⟨by kernel_rfl, ?_⟩
          obtain ⟨hbox, hcl⟩ := hS1
          have hp' := hp1.keep k1
          have hm' := hm1.keep k1
          have hch := hch1.keep k1
          have hcw := hcw1.keep k1
          have hB := hB1.keep k1
          clear hp1 hm1 hR1 hch1 hcw1 hB1
          rw [← HBJ.out]
          cases hbk : breakB p k l j
          · have HBK := Lib.hid hbk
            clear hbk
            obtain ⟨c0, c1, c2, c3, c4, hfr⟩ := id hbox
            go_wp2_with fail
            go_still_tail 5, (by kernel_rfl)
            have hd1 : Chg No W1 W1.drew := (Chg.refl No W1).drew
            change wpList _ _ _ _ _ W1.drew
            have hbox1 := hbox.keep hd1
            have hp1 := hp'.keep hd1
            have hm1 := hm'.keep hd1
            have hch1 := hch.keep hd1
            have hB1 := hB.keep hd1
            clear c0 c1 c2 c3 c4 hfr hcl hbox hp' hm' hch hB hcw
            generalize W1.drew = W3 at hbox1 hp1 hm1 hch1 hB1 ⊢
            clear hd1
            go_wp2_with fail
            refine (l4Step_any B _ ck y W3 ⟨_, _, rfl, hp1, hm1⟩ hB1 hokk).mono ?_
            rintro e w3 ⟨v3, rfl, ⟨pv3, mv3, rfl, hp3, hm3⟩, hk3⟩
            rw [← HR.out] at hp3 hm3
            obtain ⟨pa3, pn3, pc3, rfl⟩ := hp3.shape
            obtain ⟨ma3, mn3, mc3, rfl⟩ := hm3.shape
            have hbox3 := hbox1.keep hk3
            obtain ⟨c0, c1, c2, c3, c4, hfr⟩ := id hbox3
            have hfr0 := hfr 0
            have hfr1 := hfr 1
            have hfr2 := hfr 2
            have hfr3 := hfr 3
            have hfr4 := hfr 4
            have hbox5 := hbox3.put5 (.int .i64 (stepC ck y).pol) (.int .i64 (stepC ck y).size) (.slice pa3 pn3 pc3) (.slice ma3 mn3 mc3) (.int .i64 (stepC ck y).hand)
            have hcb := (Chg.refl (fun q => q = w2.heap.size) w3).put5 (b := w2.heap.size) (fun _ => rfl) (.int .i64 (stepC ck y).pol) (.int .i64 (stepC ck y).size) (.slice pa3 pn3 pc3) (.slice ma3 mn3 mc3) (.int .i64 (stepC ck y).hand)
            have hp5 := hp3.step hcb (fun q hq => hq ▸ hNB)
            have hm5 := hm3.step hcb (fun q hq => hq ▸ hNB)
            have hch5 := (hch1.keep hk3).step hcb (fun q hq hl => by omega)
            have hB5 := (hB1.keep hk3).keep hcb
            go_wp2_with fail
            go_roundw
            case measure => simp [intOf]; omega
            case rel => exact ⟨j + 1, .slice pa3 pn3 pc3, .slice ma3 mn3 mc3, B, hlt, by go_num, by rw [HS1.out], hNB, hB5, hno.succ HBK.out, by rw [HR.out]; exact hbox5, hp5, hm5, hch5⟩
          · have HBK := Lib.hid hbk
            clear hbk hcl
            have e := firstN_hit (n := l.length) hno hlt HBK.out
            have HE := Lib.hid e
            clear e
            go_wp2_with fail
            go_ret2
            exact ⟨_, _, rfl, by rw [HA.out, HE.out]; rfl, by rw [HA.out, HE.out]; rfl, hcw⟩
        · have hse : j = s1 := by have e := HSS.out; rw [hnb] at e; exact e.symm
          clear HSS
          subst hse
          have HNBJ := Lib.hid hnb
          clear hnb
          dsimp only
          go_wp2_with fail
          refine wp_region_K (S := fun W => Box W w2.heap.size (.int .i64 ck.pol) (.int .i64 ck.size) (.slice pa' pn' pc') (.slice ma' mn' mc') (.int .i64 ck.hand) ∧ W.cell? ⟨b, off + j, none⟩ = some (.int .i64 y)) (k := 5) (by kernel_rfl) ?_
          have d0 : Chg No wr wr.drew := (Chg.refl No wr).drew
          have hS : (fun W : World => Box W w2.heap.size (.int .i64 ck.pol) (.int .i64 ck.size) (.slice pa' pn' pc') (.slice ma' mn' mc') (.int .i64 ck.hand) ∧ W.cell? ⟨b, off + j, none⟩ = some (.int .i64 y)) wr.drew := ⟨hbox.keep d0, (d0.cellD b (off + j) (Nat.lt_of_lt_of_le hb hcw.size) (fun e => e)).trans hcl⟩
          have hp1 := hp'.keep d0
          have hm1 := hm'.keep d0
          have hR1 := hRx.keep d0
          have hch1 := hch.keep d0
          have hcw1 := hcw.keep d0
          have hB1 := hB.keep d0
          clear hcl hbox hp' hm' hB hcw hch hRx hrw
          generalize wr.drew = W at hS hp1 hm1 hR1 hch1 hcw1 hB1 ⊢
          clear d0
          refine wpAnyK_take0 1 (.slice (some ⟨b, off, none⟩) l.length cap) rfl (by kernel_rfl) (fun _ _ _ h => h) hS rfl (fun w => by kernel_rfl) ?_
          simp only [List.getElem_toArray, List.getElem_cons_succ, List.getElem_cons_zero, Act.put, List.setIfInBounds_toArray, List.set_cons_zero, List.set_cons_succ]
          refine wpAnyK_take0 2 (.int .i64 (j : Int)) rfl (by kernel_rfl) (fun _ _ _ h => h) hS rfl (fun w => by kernel_rfl) ?_
          simp only [List.getElem_toArray, List.getElem_cons_succ, List.getElem_cons_zero, Act.put, List.setIfInBounds_toArray, List.set_cons_zero, List.set_cons_succ]
          refine wpAnyK_take0 3 (.pointer (some ⟨b, off + j, none⟩)) rfl (by kernel_rfl) (fun _ _ _ h => h) hS rfl (fun w => idx_run (.tmp 37) (.tmp 38) rfl rfl rfl hlt w) ?_
          simp only [List.getElem_toArray, List.getElem_cons_succ, List.getElem_cons_zero, Act.put, List.setIfInBounds_toArray, List.set_cons_zero, List.set_cons_succ]
          refine wpAnyK_take0 6 (.slice (some ⟨b, off, none⟩) l.length cap) rfl (by kernel_rfl) (fun _ _ _ h => h) hS rfl (fun w => by kernel_rfl) ?_
          simp only [List.getElem_toArray, List.getElem_cons_succ, List.getElem_cons_zero, Act.put, List.setIfInBounds_toArray, List.set_cons_zero, List.set_cons_succ]
          refine wpAnyK_take0 7 (.int .i64 (j : Int)) rfl (by kernel_rfl) (fun _ _ _ h => h) hS rfl (fun w => by kernel_rfl) ?_
          simp only [List.getElem_toArray, List.getElem_cons_succ, List.getElem_cons_zero, Act.put, List.setIfInBounds_toArray, List.set_cons_zero, List.set_cons_succ]
          refine wpAnyK_take0 8 (.int .i64 (j : Int)) rfl (by kernel_rfl) (fun _ _ _ h => h) hS rfl (fun w => by kernel_rfl) ?_
          simp only [List.getElem_toArray, List.getElem_cons_succ, List.getElem_cons_zero, Act.put, List.setIfInBounds_toArray, List.set_cons_zero, List.set_cons_succ]
          refine wpAnyK_take0 9 (x) rfl (by kernel_rfl) (fun _ _ _ h => h) hS rfl (fun w => slc_run (v := .slice (some ⟨b, off, none⟩) l.length cap) (vi := .int .i64 (j : Int)) (vj := .int .i64 (j : Int)) (.tmp 42) (.tmp 43) (.tmp 44) rfl rfl rfl rfl hx w) ?_
          simp only [List.getElem_toArray, List.getElem_cons_succ, List.getElem_cons_zero, Act.put, List.setIfInBounds_toArray, List.set_cons_zero, List.set_cons_succ]
          refine wpAnyK_take 4 (.int .i64 y) rfl (by kernel_rfl) (fun _ _ _ h => h) hS rfl (fun w hw => ldi_run (.tmp 39) rfl rfl w hw.2) ?_
          simp only [List.getElem_toArray, List.getElem_cons_succ, List.getElem_cons_zero, Act.put, List.setIfInBounds_toArray, List.set_cons_zero, List.set_cons_succ]
          refine wpAnyK_take 0 (.agg #[.int .i64 ck.pol, .int .i64 ck.size, .slice pa' pn' pc', .slice ma' mn' mc', .int .i64 ck.hand]) rfl (by kernel_rfl) (fun _ _ _ h => h) hS rfl (fun w hw => ldc_run (.tmp 11) rfl rfl w hw.1) ?_
          simp only [List.getElem_toArray, List.getElem_cons_zero, Act.put, List.setIfInBounds_toArray, List.set_cons_zero, List.set_cons_succ]
          refine wpAnyK_1 5 (by kernel_rfl) (wpOpK' rfl rfl ?_)
          intro K hK
          refine ocall (f := 56) (args := #[.agg #[.int .i64 ck.pol, .int .i64 ck.size, .slice pa' pn' pc', .slice ma' mn' mc', .int .i64 ck.hand], .int .i64 y]) (by kernel_rfl) (l4Victims_any B _ ck y W ⟨_, _, rfl, hp1, hm1⟩ hokk) (fun v1 W1 h1 => hK.out _ _ ⟨hS.1.keep h1.2, (h1.2.cellD b (off + j) (Nat.lt_of_lt_of_le hb hcw1.size) (fun e => e)).trans hS.2⟩ ?_)
          have hS1 : (fun W : World => Box W w2.heap.size (.int .i64 ck.pol) (.int .i64 ck.size) (.slice pa' pn' pc') (.slice ma' mn' mc') (.int .i64 ck.hand) ∧ W.cell? ⟨b, off + j, none⟩ = some (.int .i64 y)) W1 := ⟨hS.1.keep h1.2, (h1.2.cellD b (off + j) (Nat.lt_of_lt_of_le hb hcw1.size) (fun e => e)).trans hS.2⟩
          obtain ⟨o1, k1⟩ := h1
          rw [HVL.out] at o1
          clear hK K hS
          obtain ⟨a1, n1, q1, rfl⟩ := o1.shape
          simp only [List.getElem_toArray, List.getElem_cons_succ, List.getElem_cons_zero, Act.put, List.setIfInBounds_toArray, List.set_cons_zero, List.set_cons_succ]
          refine wpAnyK_1 10 (by kernel_rfl) (wpOpK' rfl rfl ?_)
          intro K hK
          refine ocall (f := 71) (args := #[.slice a1 n1 q1, x]) (φ := fun v w' => v = .bool (comB vl ((l.take j).drop j)) ∧ W1 = w') (by kernel_rfl) ((l4Common_any No No _ x _ _ W1 o1.readNo (hR1.keep k1)).mono (fun e w' h => ⟨_, h.1, rfl, h.2⟩)) (fun v2 W2 h2 => hK.out _ _ (h2.2 ▸ hS1) ?_)
          obtain ⟨rfl, rfl⟩ := h2
          clear hK K
          simp only [List.getElem_toArray, List.getElem_cons_succ, List.getElem_cons_zero, Act.put, List.setIfInBounds_toArray, List.set_cons_zero, List.set_cons_succ]
          refine ⟨by kernel_rfl, ?_⟩
          obtain ⟨hbox, hcl⟩ := hS1
          have hp' := hp1.keep k1
          have hm' := hm1.keep k1
          have hch := hch1.keep k1
          have hcw := hcw1.keep k1
          have hB := hB1.keep k1
          clear hp1 hm1 hR1 hch1 hcw1 hB1
          rw [← HBJ.out]
          cases hbk : breakB p k l j
          · have HBK := Lib.hid hbk
            clear hbk
            obtain ⟨c0, c1, c2, c3, c4, hfr⟩ := id hbox
            go_wp2_with fail
            go_still_tail 5, (by kernel_rfl)
            have hd1 : Chg No W1 W1.drew := (Chg.refl No W1).drew
            change wpList _ _ _ _ _ W1.drew
            have hbox1 := hbox.keep hd1
            have hp1 := hp'.keep hd1
            have hm1 := hm'.keep hd1
            have hch1 := hch.keep hd1
            have hB1 := hB.keep hd1
            clear c0 c1 c2 c3 c4 hfr hcl hbox hp' hm' hch hB hcw
            generalize W1.drew = W3 at hbox1 hp1 hm1 hch1 hB1 ⊢
            clear hd1
            go_wp2_with fail
            refine (l4Step_any B _ ck y W3 ⟨_, _, rfl, hp1, hm1⟩ hB1 hokk).mono ?_
            rintro e w3 ⟨v3, rfl, ⟨pv3, mv3, rfl, hp3, hm3⟩, hk3⟩
            rw [← HR.out] at hp3 hm3
            obtain ⟨pa3, pn3, pc3, rfl⟩ := hp3.shape
            obtain ⟨ma3, mn3, mc3, rfl⟩ := hm3.shape
            have hbox3 := hbox1.keep hk3
            obtain ⟨c0, c1, c2, c3, c4, hfr⟩ := id hbox3
            have hfr0 := hfr 0
            have hfr1 := hfr 1
            have hfr2 := hfr 2
            have hfr3 := hfr 3
            have hfr4 := hfr 4
            have hbox5 := hbox3.put5 (.int .i64 (stepC ck y).pol) (.int .i64 (stepC ck y).size) (.slice pa3 pn3 pc3) (.slice ma3 mn3 mc3) (.int .i64 (stepC ck y).hand)
            have hcb := (Chg.refl (fun q => q = w2.heap.size) w3).put5 (b := w2.heap.size) (fun _ => rfl) (.int .i64 (stepC ck y).pol) (.int .i64 (stepC ck y).size) (.slice pa3 pn3 pc3) (.slice ma3 mn3 mc3) (.int .i64 (stepC ck y).hand)
            have hp5 := hp3.step hcb (fun q hq => hq ▸ hNB)
            have hm5 := hm3.step hcb (fun q hq => hq ▸ hNB)
            have hch5 := (hch1.keep hk3).step hcb (fun q hq hl => by omega)
            have hB5 := (hB1.keep hk3).keep hcb
            go_wp2_with fail
            go_roundw
            case measure => simp [intOf]; omega
            case rel => exact ⟨j + 1, .slice pa3 pn3 pc3, .slice ma3 mn3 mc3, B, hlt, by go_num, by rw [HS1.out], hNB, hB5, hno.succ HBK.out, by rw [HR.out]; exact hbox5, hp5, hm5, hch5⟩
          · have HBK := Lib.hid hbk
            clear hbk hcl
            have e := firstN_hit (n := l.length) hno hlt HBK.out
            have HE := Lib.hid e
            clear e
            go_wp2_with fail
            go_ret2
            exact ⟨_, _, rfl, by rw [HA.out, HE.out]; rfl, by rw [HA.out, HE.out]; rfl, hcw⟩
      · have hj' : j = l.length := by omega
        subst hj'
        have e := firstN_none (n := l.length) hno
        have HE : Hid (markV n p k l = none) := Lib.hid (by rw [HA.out, e])
        clear hc e
        go_wp2_with fail
        go_ret2
        exact ⟨_, _, rfl, by rw [HE.out]; rfl, by rw [HE.out]; rfl, ch2.keep hch⟩
end Go.Proofs.Ythonkbilgllobaa
