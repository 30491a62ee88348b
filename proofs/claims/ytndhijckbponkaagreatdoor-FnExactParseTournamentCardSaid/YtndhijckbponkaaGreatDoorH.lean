import Derived.Test.YtndhijckbponkaaGreatDoorG
namespace Go.Proofs.YtndhijckbponkaaGreatDoor
open Go.RowKit

theorem quiet_sym {P : Program} {f : FuncId} {args : Array Value} {w : World} {n : Nat} {v : Value}
    (h : Calls P f args (w.drewN n) fun e w' => e = .returned v ∧ w.drewN n = w') : Calls P f args (w.drewN n) fun e w'' => e = .returned v ∧ ∃ m, w'' = w.drewN m :=
  Calls.quiet_of_same (h.mono fun _ _ h => ⟨h.1, h.2.symm⟩)

set_option maxHeartbeats 400000 in
theorem l4New_any (p k : Int) (w : World) :
    Calls Tryz.prog 125 #[.int .i64 p, .int .i64 k] w (Ret fun v' w' => (∀ A, Bd A w → RC A w' v' (newC p k)) ∧ Chg No w w') := by
  go_enter Tryz.func125, Tryz.ntmps125
  go_wp2
  refine bodyPost_ret (v := .agg #[.int .i64 p, .int .i64 k, .slice (some ⟨w.heap.size + 1, 0, none⟩) 0 0, .slice (some ⟨w.heap.size + 1 + 1, 0, none⟩) 0 0, .int .i64 0]) (by simp [results, Tryz.results125, go_sem]) rfl ?_
  exact ⟨_, rfl, fun A _ => ⟨_, _, rfl, RI.empty A _ _ 0 (by omega) (by simp), RI.empty A _ _ 0 (by omega) (by simp)⟩, (((Chg.refl No w).alloc _).alloc _).alloc _⟩

set_option maxRecDepth 100000 in
set_option maxHeartbeats 1000000 in
theorem l4Places_any (A : Nat → Prop) (v rv : Value) (c : Ca) (l : List Int) (w : World) (hv : RC A w v c) (hr : RI A w rv l) (_hA : Bd A w) (hok : Ok c) :
    Calls Tryz.prog 128 #[v, rv] w (Ret fun v' w' => OI w.heap.size w' v' (places c l) ∧ Chg No w w') := by
  obtain ⟨pv, mv, rfl, hp, hmk⟩ := hv
  obtain ⟨pa, pn, pc, rfl⟩ := hp.shape
  obtain ⟨ma, mn, mc, rfl⟩ := hmk.shape
  obtain ⟨a, cap, rfl, hcap, hmax, hlen, _, hc⟩ := id hr
  go_enter Tryz.func128, Tryz.ntmps128
  go_wp2
  go_loopw [5, 6] (fun o i wr => ∃ (k : Nat) (pv mv : Value) (B : Nat → Prop), k ≤ l.length ∧ i = .int .i64 k ∧ OI (w.heap.size + 1) wr o (placesTo c l k) ∧ (∀ q, own o q → B q) ∧ B w.heap.size ∧ Bd B wr ∧
      Box wr w.heap.size (.int .i64 (runC c (l.take k)).pol) (.int .i64 (runC c (l.take k)).size) pv mv (.int .i64 (runC c (l.take k)).hand) ∧
      RI B wr pv (runC c (l.take k)).pages ∧ RI B wr mv (runC c (l.take k)).marks ∧ Chg No w wr) (fun _ i _ => l.length - (intOf i).toNat)
  case atStart =>
    refine ⟨0, .slice pa pn pc, .slice ma mn mc, fun q => q = w.heap.size ∨ q = w.heap.size + 1, Nat.zero_le _, rfl, OI.zeroAt (World.size_alloc ..) (Nat.le_refl _), fun q hq => .inr (own_slice.1 hq), .inl rfl, fun q hq => ?_, ?_, ?_, ?_, ((Chg.refl No w).alloc _).alloc _⟩
    · rw [World.size_alloc, World.size_alloc]
      rcases hq with h | h <;> omega
    · exact (Box.new w _ _ _ _ _ _).keep ((Chg.refl No _).alloc _)
    · exact hp.to (((Chg.refl No w).alloc _).alloc _) (fun _ e => e.elim) (fun q hq => .inr (by omega))
    · exact hmk.to (((Chg.refl No w).alloc _).alloc _) (fun _ e => e.elim) (fun q hq => .inr (by omega))
  case round =>
    obtain ⟨k, pv, mv, B, hk, rfl, ho, hoB, hNB, hB, hbox, hp', hm', hch⟩ := hrel
    obtain ⟨pa', pn', pc', rfl⟩ := hp'.shape
    obtain ⟨ma', mn', mc', rfl⟩ := hm'.shape
    obtain ⟨ck, hck⟩ : ∃ ck, runC c (l.take k) = ck := ⟨_, rfl⟩
    have hokk : Ok ck := hck ▸ ok_run hok _
    rw [hck] at hbox hp' hm'
    by_cases hlt : k < l.length
    · obtain ⟨b, off, rfl, _, hb, hcell⟩ := hc (by intro e; simp [e] at hlt)
      have hrun := runC_snoc c l k hlt
      rw [hck] at hrun
      obtain ⟨y, hy⟩ : ∃ y, l[k] = y := ⟨_, rfl⟩
      have hcl := (hch.cellD b (off + k) hb (fun e => e)).trans (hcell k hlt)
      have hgy : l.getD k 0 = y := by rw [← hy, List.getD_eq_getElem?_getD, List.getElem?_eq_getElem hlt]; rfl
      rw [hgy] at hcl
      rw [hy] at hrun
      have hpl : placesTo c l (k + 1) = if hasB ck.pages y then placesTo c l k else placesTo c l k ++ [(k : Int)] := by
        show (if hasB (runC c (l.take k)).pages (l.getD k 0) then _ else _) = _
        rw [hck, hgy]
      have HR := Lib.hid hrun
      have HP := Lib.hid hpl
      clear hcell hc hrun hpl hck hgy hy
      have hk0 : (0 : Int) ≤ (k : Int) := Int.natCast_nonneg _
      have hk1 : (k : Int) < (l.length : Int) := by omega
      have c2 := hbox.c2
      by_cases hh : hasB ck.pages y = true
      · have HPL : Hid (placesTo c l (k + 1) = placesTo c l k) := Lib.hid (by rw [HP.out, if_pos hh])
        go_wp2_with fail
        go_quiet ((go_at_call 156; exact quiet_sym (l1Has_any B _ _ _ _ (by exact hp'.keep ((Chg.refl No wr).drewN _)))))
        have hd := (Chg.refl No wr).drewN nq
        have hbox1 := hbox.keep hd
        have hp1 := hp'.keep hd
        have hm1 := hm'.keep hd
        have ho1 := ho.keep hd
        rw [← HPL.out] at ho1
        have hB1 := hB.keep hd
        have hch1 := hch.keep hd
        have hcl1 := (hd.cellD b (off + k) (Nat.lt_of_lt_of_le hb hch.size) (fun e => e)).trans hcl
        obtain ⟨B1, hBB⟩ : ∃ B1, B = B1 := ⟨_, rfl⟩
        have hoB1 := hoB
        have hNB1 := hNB
        rw [hBB] at hp1 hm1 hB1 hoB1 hNB1
        clear hbox hp' hm' ho hch hB hcl c2 hBB hoB hNB
        go_wp2_with fail
        generalize wr.drewN nq = W1 at *
        · skip
          have c0 := hbox1.c0
          have c1 := hbox1.c1
          have c2 := hbox1.c2
          have c3 := hbox1.c3
          have c4 := hbox1.c4
          have hfr := hbox1.fr
          go_wp2_with fail
          go_still_tail 5, (by kernel_rfl)
          have hd1 : Chg No W1 W1.drew := (Chg.refl No W1).drew
          change wpList _ _ _ _ _ W1.drew
          have hbox1 := hbox1.keep hd1
          have hp1 := hp1.keep hd1
          have hm1 := hm1.keep hd1
          have ho1 := ho1.keep hd1
          have hch1 := hch1.keep hd1
          have hB1 := hB1.keep hd1
          clear c0 c1 c2 c3 c4 hfr hcl1
          generalize W1.drew = W2 at hbox1 hp1 hm1 ho1 hch1 hB1 ⊢
          clear hd1
          go_wp2_with fail
          refine (l4Step_any B1 _ ck y W2 ⟨_, _, rfl, hp1, hm1⟩ hB1 hokk).mono ?_
          rintro e w3 ⟨v3, rfl, ⟨pv3, mv3, rfl, hp3, hm3⟩, hk3⟩
          rw [← HR.out] at hp3 hm3
          obtain ⟨pa3, pn3, pc3, rfl⟩ := hp3.shape
          obtain ⟨ma3, mn3, mc3, rfl⟩ := hm3.shape
          have hbox3 := hbox1.keep hk3
          obtain ⟨c0, c1, c2, c3, c4, hfr⟩ := id hbox3
          have hfr0 := hfr 0
          have hfr1 := hfr 1
          have hfr2 := hfr 2
          have hfr3 := hfr 3
          have hfr4 := hfr 4
          go_wp2
          go_roundw
          case measure => simp [intOf]; omega
          case rel =>
            refine ⟨k + 1, .slice pa3 pn3 pc3, .slice ma3 mn3 mc3, B1, by omega, by go_num, (ho1.keep hk3).put5 (fun q hq e => by have := (ho1.lt q hq).1; omega) _ _ _ _ _, hoB1, hNB1, ?_, ?_, ?_, ?_, (hch1.keep hk3).put5 (fun h => by omega) _ _ _ _ _⟩
            · exact (hB1.keep hk3).keep ((Chg.refl (fun q => q = w.heap.size) _).put5 (fun _ => rfl) _ _ _ _ _)
            · have := hbox3.put5 (.int .i64 (stepC ck y).pol) (.int .i64 (stepC ck y).size) (.slice pa3 pn3 pc3) (.slice ma3 mn3 mc3) (.int .i64 (stepC ck y).hand)
              rw [HR.out]
              exact this
            · exact hp3.step ((Chg.refl (fun q => q = w.heap.size) _).put5 (fun _ => rfl) _ _ _ _ _) (fun q hq => hq ▸ hNB1)
            · exact hm3.step ((Chg.refl (fun q => q = w.heap.size) _).put5 (fun _ => rfl) _ _ _ _ _) (fun q hq => hq ▸ hNB1)
      · replace hh : hasB ck.pages y = false := by simpa using hh
        have HPL : Hid (placesTo c l (k + 1) = placesTo c l k ++ [(k : Int)]) := Lib.hid (by rw [HP.out, if_neg (by simp [hh])])
        go_wp2_with fail
        go_quiet ((go_at_call 156; exact quiet_sym (l1Has_any B _ _ _ _ (by exact hp'.keep ((Chg.refl No wr).drewN _)))))
        have hd := (Chg.refl No wr).drewN nq
        go_wp2_with (at_builtin; refine wapp1 rfl (.tmp 22) (.tmp 24) rfl (ho.keep hd) rfl rfl (by have := placesTo_le c l k; omega) (by have := hbox.lt; show w.heap.size + 1 ≤ wr.heap.size; omega) ?_)
        intro o1 W1 ho1 hch' hnew
        rw [← HPL.out] at ho1
        have hT := hoB
        have hchw := hd
        have hNo := ho.notOwn (Nat.lt_succ_self w.heap.size)
        have hbox1 := (hbox.keep hd).step hch' hNo
        obtain ⟨B1, hB1e⟩ : ∃ B1, B1 = Or2 B (own o1) := ⟨_, rfl⟩
        have hp1 := (hp'.keep hd).app hch' hT hnew
        have hm1 := (hm'.keep hd).app hch' hT hnew
        have hB1 : Bd (Or2 B (own o1)) W1 := ((hB.keep hd).keep hch').or (fun q hq => (ho1.lt q hq).2)
        have hch1 := (hch.keep hd).own hch' ho (by omega)
        have hcl1 := (hch'.cellD b (off + k) (Nat.lt_of_lt_of_le hb hch.size) (fun hq => by have := (ho.lt _ hq).1; omega)).trans hcl
        have hoB1 : ∀ q, own o1 q → Or2 B (own o1) q := fun q hq => .inr hq
        have hNB1 : Or2 B (own o1) w.heap.size := .inl hNB
        rw [← hB1e] at hp1 hm1 hB1 hoB1 hNB1
        clear hbox hp' hm' ho hch hB hcl c2 hB1e hoB hNB hchw hNo hT hch' hd
        · skip
          have c0 := hbox1.c0
          have c1 := hbox1.c1
          have c2 := hbox1.c2
          have c3 := hbox1.c3
          have c4 := hbox1.c4
          have hfr := hbox1.fr
          go_wp2_with fail
          go_still_tail 5, (by kernel_rfl)
          have hd1 : Chg No W1 W1.drew := (Chg.refl No W1).drew
          change wpList _ _ _ _ _ W1.drew
          have hbox1 := hbox1.keep hd1
          have hp1 := hp1.keep hd1
          have hm1 := hm1.keep hd1
          have ho1 := ho1.keep hd1
          have hch1 := hch1.keep hd1
          have hB1 := hB1.keep hd1
          clear c0 c1 c2 c3 c4 hfr hcl1
          generalize W1.drew = W2 at hbox1 hp1 hm1 ho1 hch1 hB1 ⊢
          clear hd1
          go_wp2_with fail
          refine (l4Step_any B1 _ ck y W2 ⟨_, _, rfl, hp1, hm1⟩ hB1 hokk).mono ?_
          rintro e w3 ⟨v3, rfl, ⟨pv3, mv3, rfl, hp3, hm3⟩, hk3⟩
          rw [← HR.out] at hp3 hm3
          obtain ⟨pa3, pn3, pc3, rfl⟩ := hp3.shape
          obtain ⟨ma3, mn3, mc3, rfl⟩ := hm3.shape
          have hbox3 := hbox1.keep hk3
          obtain ⟨c0, c1, c2, c3, c4, hfr⟩ := id hbox3
          have hfr0 := hfr 0
          have hfr1 := hfr 1
          have hfr2 := hfr 2
          have hfr3 := hfr 3
          have hfr4 := hfr 4
          go_wp2
          go_roundw
          case measure => simp [intOf]; omega
          case rel =>
            refine ⟨k + 1, .slice pa3 pn3 pc3, .slice ma3 mn3 mc3, B1, by omega, by go_num, (ho1.keep hk3).put5 (fun q hq e => by have := (ho1.lt q hq).1; omega) _ _ _ _ _, hoB1, hNB1, ?_, ?_, ?_, ?_, (hch1.keep hk3).put5 (fun h => by omega) _ _ _ _ _⟩
            · exact (hB1.keep hk3).keep ((Chg.refl (fun q => q = w.heap.size) _).put5 (fun _ => rfl) _ _ _ _ _)
            · have := hbox3.put5 (.int .i64 (stepC ck y).pol) (.int .i64 (stepC ck y).size) (.slice pa3 pn3 pc3) (.slice ma3 mn3 mc3) (.int .i64 (stepC ck y).hand)
              rw [HR.out]
              exact this
            · exact hp3.step ((Chg.refl (fun q => q = w.heap.size) _).put5 (fun _ => rfl) _ _ _ _ _) (fun q hq => hq ▸ hNB1)
            · exact hm3.step ((Chg.refl (fun q => q = w.heap.size) _).put5 (fun _ => rfl) _ _ _ _ _) (fun q hq => hq ▸ hNB1)
    · have hkl : k = l.length := by omega
      go_wp2
      go_ret
      subst hkl
      exact ⟨_, rfl, ho.weak (by omega), hch⟩
end Go.Proofs.YtndhijckbponkaaGreatDoor
