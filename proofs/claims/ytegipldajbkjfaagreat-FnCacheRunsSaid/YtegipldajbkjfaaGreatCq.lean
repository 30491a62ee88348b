import Derived.Test.YtegipldajbkjfaaGreatCo
import Derived.Test.YtegipldajbkjfaaGreatH
/- ContentsOf of the reference -/
namespace Go.Proofs.YtegipldajbkjfaaGreat
open Go.RowKit

set_option maxRecDepth 100000 in
set_option maxHeartbeats 400000 in
theorem l4Sorted_any (A : Nat → Prop) (v : Value) (l : List Int) (w : World) (h : RI A w v l) :
    Calls Tryz.prog 134 #[v] w (Ret fun r w' => OI w.heap.size w' r (diffL l) ∧ Chg No w w') := by
  go_enter Tryz.func134, Tryz.ntmps134
  go_wp2_with fail
  refine (l3Different_any A v l w h).mono ?_
  rintro e w1 ⟨v1, rfl, o1, k1⟩
  go_wp2_with fail
  go_ret
  exact ⟨_, rfl, o1, k1⟩

set_option maxRecDepth 100000 in
set_option maxHeartbeats 1000000 in
theorem l4Pages_any (A : Nat → Prop) (p k : Int) (v : Value) (l : List Int) (w : World) (hv : RI A w v l) (hok : Ok (newC p k)) (hll : l.length ≤ 1000000) :
    Calls Tryz.prog 89 #[.int .i64 p, .int .i64 k, v] w (Ret fun v' w' => (∃ F, OII w.heap.size w' v' (pagesTo (newC p k) l l.length) F) ∧ Chg No w w') := by
  obtain ⟨c, hc0⟩ : ∃ c, newC p k = c := ⟨_, rfl⟩
  have HC0 := Lib.hid hc0
  obtain ⟨a, cap, rfl, hcap, hmax, hlen, _, hc⟩ := id hv
  go_enter Tryz.func89, Tryz.ntmps89
  go_wp2_with fail
  refine (l4New_any p k _).mono ?_
  rintro e w1 ⟨v1, rfl, hrc, k1⟩
  obtain ⟨pv0, mv0, rfl, hp0, hm0⟩ := hrc (fun q => q = w.heap.size) (fun q hq => by subst hq; simp)
  rw [hc0] at hp0 hm0 hok ⊢
  obtain ⟨pa, pn, pc, rfl⟩ := hp0.shape
  obtain ⟨ma, mn, mc, rfl⟩ := hm0.shape
  have o0 : OII w.heap.size w1 (.slice (some ⟨w.heap.size, 0, none⟩) 0 0) [] (fun q => q = w.heap.size) := (OII.zero (Nat.le_refl _)).keep k1
  have ch1 : Chg No w w1 := ((Chg.refl No w).alloc _).keep k1
  have hz1 : w.heap.size < w1.heap.size := by have := k1.size; simp at this; omega
  obtain ⟨bb, hbb⟩ : ∃ bb, w1.heap.size = bb := ⟨_, rfl⟩
  have hbx := Box.new w1 (.int .i64 c.pol) (.int .i64 c.size) (.slice pa pn pc) (.slice ma mn mc) (.int .i64 c.hand) 26
  have HBB := Lib.hid hbb
  clear hbb hrc
  go_wp2_with fail
  go_loopw [7, 9] (fun o i wr => ∃ (j : Nat) (pv mv : Value) (B F : Nat → Prop), j ≤ l.length ∧ i = .int .i64 j ∧ OII w.heap.size wr o (pagesTo c l j) F ∧ (∀ q, F q → B q) ∧ B w1.heap.size ∧ Bd B wr ∧ ¬ F w1.heap.size ∧
      Box wr w1.heap.size (.int .i64 (runC c (l.take j)).pol) (.int .i64 (runC c (l.take j)).size) pv mv (.int .i64 (runC c (l.take j)).hand) ∧
      RI B wr pv (runC c (l.take j)).pages ∧ RI B wr mv (runC c (l.take j)).marks ∧ Chg No w wr) (fun _ i _ => l.length - (intOf i).toNat)
  case atStart =>
    refine ⟨0, .slice pa pn pc, .slice ma mn mc, fun q => q = w.heap.size ∨ q = w1.heap.size, fun q => q = w.heap.size, Nat.zero_le _, rfl, o0.keep ((Chg.refl No _).alloc _), fun q hq => .inl hq, .inr rfl, fun q hq => ?_, by omega, ?_, ?_, ?_, ch1.alloc _⟩
    · rw [World.size_alloc]
      rcases hq with h | h <;> omega
    · exact hbx
    · exact hp0.to ((Chg.refl No w1).alloc _) (fun _ e => e.elim) (fun q hq => by rcases hq with h | h <;> omega)
    · exact hm0.to ((Chg.refl No w1).alloc _) (fun _ e => e.elim) (fun q hq => by rcases hq with h | h <;> omega)
  case round =>
    obtain ⟨j, pv, mv, B, F, hj, rfl, ho, hoB, hNB, hB, hnF, hbox, hp', hm', hch⟩ := hrel
    obtain ⟨pa', pn', pc', rfl⟩ := hp'.shape
    obtain ⟨ma', mn', mc', rfl⟩ := hm'.shape
    obtain ⟨ck, hck⟩ : ∃ ck, runC c (l.take j) = ck := ⟨_, rfl⟩
    have hokk : Ok ck := hck ▸ ok_run hok _
    rw [hck] at hbox hp' hm'
    by_cases hlt : j < l.length
    · obtain ⟨b, off, rfl, _, hb, hcell⟩ := hc (by intro e; simp [e] at hlt)
      have hrun := runC_snoc c l j hlt
      rw [hck] at hrun
      obtain ⟨y, hy⟩ : ∃ y, l[j] = y := ⟨_, rfl⟩
      have hcl := (hch.cellD b (off + j) hb (fun e => e)).trans (hcell j hlt)
      have hgy : l.getD j 0 = y := by rw [← hy, List.getD_eq_getElem?_getD, List.getElem?_eq_getElem hlt]; rfl
      rw [hgy] at hcl
      rw [hy] at hrun
      have HR := Lib.hid hrun
      have HPL := Lib.hid (pagesTo_len c l j)
      clear hcell hc hrun hck hgy hy
      have hj0 : (0 : Int) ≤ (j : Int) := Int.natCast_nonneg _
      have hj1 : (j : Int) < (l.length : Int) := by omega
      have hw1 : IntKind.i64.wrap ((j : Int) + 1) = (j : Int) + 1 := IntWalk.i64_in _ (by omega)
      obtain ⟨c0, c1, c2, c3, c4, hfr⟩ := id hbox
      obtain ⟨oa, oc, hov, _⟩ := ho.view
      subst hov
      go_wp2_with fail
      go_still_tail 5, (by kernel_rfl)
      have hd1 : Chg No wr wr.drew := (Chg.refl No wr).drew
      change wpList _ _ _ _ _ wr.drew
      have hbox1 := hbox.keep hd1
      have hp1 := hp'.keep hd1
      have hm1 := hm'.keep hd1
      have ho1 := ho.keep hd1
      have hch1 := hch.keep hd1
      have hB1 := hB.keep hd1
      clear c0 c1 c2 c3 c4 hfr hcl hbox hp' hm' ho hch hB
      generalize wr.drew = W2 at hbox1 hp1 hm1 ho1 hch1 hB1 ⊢
      clear hd1
      go_wp2_with fail
      refine (l4Step_any B _ ck y W2 ⟨_, _, rfl, hp1, hm1⟩ hB1 hokk).mono ?_
      rintro e w3 ⟨v3, rfl, ⟨pv3, mv3, rfl, hp3, hm3⟩, hk3⟩
      rw [← HR.out] at hp3 hm3
      obtain ⟨pa3, pn3, pc3, rfl⟩ := hp3.shape
      obtain ⟨ma3, mn3, mc3, rfl⟩ := hm3.shape
      have hbox3 := hbox1.keep hk3
      obtain ⟨c0, c1, c2, c3, c4, hfr⟩ := id hbox3
      have hfr0 := hfr 0
      have hfr1 := hfr 1
      have hfr2 := hfr 2
      have hfr3 := hfr 3
      have hfr4 := hfr 4
      have hbox5 := hbox3.put5 (.int .i64 (stepC ck y).pol) (.int .i64 (stepC ck y).size) (.slice pa3 pn3 pc3) (.slice ma3 mn3 mc3) (.int .i64 (stepC ck y).hand)
      have hcb := (Chg.refl (fun q => q = w1.heap.size) w3).put5 (b := w1.heap.size) (fun _ => rfl) (.int .i64 (stepC ck y).pol) (.int .i64 (stepC ck y).size) (.slice pa3 pn3 pc3) (.slice ma3 mn3 mc3) (.int .i64 (stepC ck y).hand)
      have hp5 := hp3.step hcb (fun q hq => hq ▸ hNB)
      have hm5 := hm3.step hcb (fun q hq => hq ▸ hNB)
      have ho5 := (ho1.keep hk3).step hcb (fun q hq e => hnF (e ▸ hq))
      have hch5 := (hch1.keep hk3).step hcb (fun q hq hl => by omega)
      have hB5 := (hB1.keep hk3).keep hcb
      obtain ⟨d0, d1, d2, d3, d4, dfr⟩ := id hbox5
      go_wp2_with fail
      clear c0 c1 c2 c3 c4 hfr hfr0 hfr1 hfr2 hfr3 hfr4 d0 d1 d2 d3 d4 dfr hcb
      generalize (((((w3.setCell _ _).setCell _ _).setCell _ _).setCell _ _).setCell _ _) = w5 at hbox5 hp5 hm5 ho5 hch5 hB5 ⊢
      refine (l4Sorted_any B _ _ w5 hp5).mono ?_
      rintro e w6 ⟨v6, rfl, o6, k6⟩
      obtain ⟨a6, n6, q6, rfl⟩ := o6.shape
      obtain ⟨vs, z1, z2, z3, z4, z5, z6⟩ := ho5.open
      have zz2 := z2.keep k6
      have hz5 := hch5.size
      have hz6 := k6.size
      have hbl5 := hbox5.lt
      have hF5 := ho5.lt
      have hd1 : ∀ q, own (.slice a6 n6 q6) q → ¬ F q := fun q hq hF => by have := (o6.lt q hq).1; have := (hF5 q hF).2; omega
      have hF5 := Lib.hid hF5
      go_wp2_with (at_builtin; refine wappS1 elInts (by omega) rfl (.tmp 26) (.tmp 30) rfl zz2 rfl (by simp [Value.oneCell']) rfl rfl (by rw [HPL.out]; omega) (by omega) ?_)
      intro v7 w7 h7 k7 f7
      obtain ⟨F', oF, hF'⟩ := OII.app (ll := pagesTo c l j) z1 (fun i hi => (z3 i hi).keep k6) z4 z5 z6 (o6.weak hz5) hd1 h7 k7 f7
      obtain ⟨a7, c7, rfl, _⟩ := h7.view
      have c57 := (k6.mono (T := own (.slice oa (pagesTo c l j).length oc)) (fun _ e _ => e.elim)).step k7 (fun q hq _ => hq)
      have hoa : ∀ q, own (.slice oa (pagesTo c l j).length oc) q → F q := fun q hq => (z6 q).2 (.inl hq)
      have hnew : ∀ q, F' q → F q ∨ w5.heap.size ≤ q := fun q hq => by
        rcases hF' q hq with h | h | h
        · exact .inl h
        · exact .inr (o6.lt q h).1
        · exact .inr (by omega)
      have hbox7 := hbox5.step c57 (fun e => hnF (hoa _ e))
      have hp7 := hp5.to (B := fun q => B q ∨ F' q) c57 (fun q hq => hoB q (hoa q hq)) (fun q hq => by
        rcases hq with h | h
        · exact .inl h
        · rcases hnew q h with h | h
          · exact .inl (hoB q h)
          · exact .inr h)
      have hm7 := hm5.to (B := fun q => B q ∨ F' q) c57 (fun q hq => hoB q (hoa q hq)) (fun q hq => by
        rcases hq with h | h
        · exact .inl h
        · rcases hnew q h with h | h
          · exact .inl (hoB q h)
          · exact .inr h)
      have hB7 : Bd (fun q => B q ∨ F' q) w7 := fun q hq => by
        rcases hq with h | h
        · have := hB5 q h; have := c57.size; omega
        · exact (oF.lt q h).2
      have hch7 := hch5.step c57 (fun q hq hl => by have := (hF5.out q (hoa q hq)).1; omega)
      have hnF7 : ¬ F' w1.heap.size := fun hq => by
        rcases hnew _ hq with h | h
        · exact hnF h
        · omega
      have HPS : Hid (pagesTo c l (j + 1) = pagesTo c l j ++ [diffL (runC c (l.take (j + 1))).pages]) := Lib.hid rfl
      rw [← HPS.out] at oF
      have HST := HR.out
      have hbox7 : Box w7 w1.heap.size (.int .i64 (runC c (l.take (j + 1))).pol) (.int .i64 (runC c (l.take (j + 1))).size) (.slice pa3 pn3 pc3) (.slice ma3 mn3 mc3) (.int .i64 (runC c (l.take (j + 1))).hand) := by rw [HST]; exact hbox7
      clear HST
      go_wp2_with fail
      go_roundw
      case measure => simp [intOf]; omega
      case rel => exact ⟨j + 1, .slice pa3 pn3 pc3, .slice ma3 mn3 mc3, _, F', hlt, by go_num, oF, fun q hq => .inr hq, .inl hNB, hB7, hnF7, hbox7, hp7, hm7, hch7⟩
    · have hjl : j = l.length := by omega
      subst hjl
      clear hc
      go_wp2_with fail
      go_ret
      exact ⟨_, rfl, ⟨F, by rw [HC0.out]; exact ho⟩, hch⟩
set_option maxHeartbeats 1000000 in
theorem specContentsOf_any (A : Nat → Prop) (n p k : Int) (v : Value) (l : List Int) (w : World) (hv : RI A w v l) :
    Calls Tryz.prog 28 #[.int .i64 n, .int .i64 p, .int .i64 k, v] w (Ret2 fun v0 v1 w' => v1 = .bool (askedB n p k l) ∧ (∃ F, OII w.heap.size w' v0 (if askedB n p k l then pagesTo (newC p k) l l.length else []) F) ∧ Chg No w w') := by
  cases hh : askedB n p k l
  · have HH := Lib.hid hh
    clear hh
    go_enter Tryz.func28, Tryz.ntmps28
    go_wp2_with fail
    refine (l4Asked_any A v l n p k w hv).mono ?_
    rintro e w1 ⟨rfl, rfl⟩
    rw [show (inB p 1 7 && inB k 1 6 && (inB n 1 8 && decide (l.length ≤ 60) && belowB n l)) = false from HH.out]
    go_wp2
    go_ret2
    exact ⟨_, _, rfl, rfl, ⟨_, OII.zero (Nat.le_refl _)⟩, (Chg.refl No w).alloc _⟩
  · have HH := Lib.hid hh
    have hl60 : l.length ≤ 1000000 := by
      simp only [askedB, Bool.and_eq_true, decide_eq_true_eq] at hh
      omega
    clear hh
    go_enter Tryz.func28, Tryz.ntmps28
    go_wp2_with fail
    refine (l4Asked_any A v l n p k w hv).mono ?_
    rintro e w1 ⟨rfl, rfl⟩
    rw [show (inB p 1 7 && inB k 1 6 && (inB n 1 8 && decide (l.length ≤ 60) && belowB n l)) = true from HH.out]
    go_wp2_with fail
    refine (l4Pages_any A p k v l w hv (askedB_ok HH.out) hl60).mono ?_
    rintro e w2 ⟨v2, rfl, o2, k2⟩
    go_wp2
    go_ret2
    exact ⟨_, _, rfl, rfl, o2, k2⟩
end Go.Proofs.YtegipldajbkjfaaGreat
