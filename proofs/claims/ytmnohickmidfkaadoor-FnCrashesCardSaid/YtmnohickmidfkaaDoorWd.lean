import Derived.Test.YtmnohickmidfkaaDoorWc
import Derived.Test.YtmnohickmidfkaaDoorYr
/- logs drawn -/
namespace Go.Proofs.YtmnohickmidfkaaDoor
open Go.RowKit

theorem ocallE {o : Oper} {a : Act} {K : Act → World → Prop} {Q : Exit → Act → World → Prop} {w : World} {f : FuncId} {args : Array Value} {φ : Value → World → Prop}
    (ho : (execOp a.eval o).run Tryd.prog w = .ok (.enter f args) w) (h : Calls Tryd.prog f args w fun e w' => ∃ v, e = .returned v ∧ φ v w') (hk : ∀ v w', φ v w' → K (a.put o.dst v) w') : Oper.wp Tryd.prog o a w K Q := by
  unfold Oper.wp
  rw [ho]
  refine h.mono (fun e w' hr => ?_)
  obtain ⟨v, rfl, hp⟩ := hr
  exact hk v w' hp
theorem wpOpKk {P : Program} {ops : Array Oper} {Q : Exit → Act → World → Prop} {md : Region.Mode} {S : World → Prop} {k i f : Nat} {o : Oper} {listed : Array Bool} {a : Act} {w : World} (ho : ops[i]? = some o) (hg : o.guard = none) (hk : (listed.setIfInBounds i true).getD k true = true)
    (h : ∀ K : Act → World → Prop, Hid (∀ a' w', wpAnyK P md ops Q S k f (listed.setIfInBounds i true) a' w' → K a' w') → Oper.wp P o a w K Q) :
    wpOp P ops Q i (fun a' w' => ((listed.setIfInBounds i true).getD k true = false → S w') ∧ wpAnyK P md ops Q S k f (listed.setIfInBounds i true) a' w') a w := by
  unfold wpOp
  rw [ho]
  show if Region.wanted o (yielded ops a.tmps) = true then _ else _
  rw [if_pos (by simp [Region.wanted, hg])]
  exact .inl (h _ (Lib.hid (fun a' w' h1 => ⟨fun h0 => by (rw [hk] at h0; cases h0), h1⟩)))
theorem app_len (d p : List UInt8) (n : Int) (c r : List UInt8) (h : d.length + p.length ≤ 30400) (_hc : c.length ≤ 1000) (_hr : r.length ≤ 1000) : d.length + (appP d p n c r).length ≤ 30400 := by
  unfold appP
  split
  · rename_i h0
    unfold appS appOk at h0
    split at h0
    · rename_i h1
      rw [Bool.and_eq_true] at h1
      obtain ⟨h2, h3, h4⟩ := valid_parts h1.1
      split at h0
      · cases h0
      · rename_i h5
        have := line_len n.toNat c r (by omega) h1.2
        rw [List.length_append, List.length_append, List.length_singleton]
        omega
    · cases h0
  · exact h
theorem sync_len (d p : List UInt8) (n : Int) (h : d.length + p.length ≤ 30400) : (syncD d p n).length + ([] : List UInt8).length ≤ 30400 := by
  unfold syncD
  split
  · rw [List.length_append]; simpa using h
  · simp
set_option maxRecDepth 100000 in
set_option maxHeartbeats 4000000 in
theorem log12_any (b B K : Nat) (w : World) (h : Cur w b B K) (hB : B ≤ w.heap.size) (hK : K ≤ 800000000) :
    Calls Tryd.prog 62 #[.pointer (some ⟨b, 0, none⟩)] w fun e w' => ∃ (d p : List UInt8) (n : Int), e = .returned (lv d p n) ∧ d.length + p.length ≤ 30400 ∧ Cur w' b B (K + 100) ∧ Chg (fun q => q = b) w w' := by
  have hb := h.lt
  have hbB := h.ltB
  obtain ⟨A0, hA0⟩ : ∃ A0, A0 = w.alloc (.cells #[.string ⟨#[]⟩, .string ⟨#[]⟩, .int .i64 0] 23) := ⟨_, rfl⟩
  have hz0 : A0.heap.size = w.heap.size + 1 := by rw [hA0, World.size_alloc]
  obtain ⟨A1, hA1⟩ : ∃ A1, A1 = A0.alloc (.cells #[.string ⟨#[]⟩, .string ⟨#[]⟩, .int .i64 0] 23) := ⟨_, rfl⟩
  have k0 : Chg No w A1 := by rw [hA1, hA0]; exact ((Chg.refl No w).alloc _).alloc _
  have bx0 : BoxL A1 w.heap.size (.string ⟨#[]⟩) (.string ⟨#[]⟩) (.int .i64 0) := by
    rw [hA1, hA0]; exact (BoxL.new w _ _ _ _).keep ((Chg.refl No _).alloc _)
  have bx1 : BoxL A1 (w.heap.size + 1) (.string ⟨#[]⟩) (.string ⟨#[]⟩) (.int .i64 0) := by
    rw [hA1, ← hz0]; exact BoxL.new A0 _ _ _ _
  have HA1 : Hid (A1 = (w.alloc (.cells #[.string ⟨#[]⟩, .string ⟨#[]⟩, .int .i64 0] 23)).alloc (.cells #[.string ⟨#[]⟩, .string ⟨#[]⟩, .int .i64 0] 23)) := Lib.hid (by rw [hA1, hA0])
  have hc0 := h.keep k0
  rw [HA1.out] at k0 bx0 bx1 hc0
  have HB0 := Lib.hid bx0
  have HB1 := Lib.hid bx1
  have HC0 := Lib.hid hc0
  have q1 := Lib.hid (pick_any b B K 7 _ hc0 (by omega) (by omega))
  obtain ⟨c0, c1, c2, fr⟩ := bx1
  clear HA1 hA1 hA0 hz0 bx0 hc0 h
  go_enter Tryd.func62, Tryd.ntmps62
  go_wp2_with (go_at_call 59; refine (q1.out).mono ?_; rintro e w1 ⟨x, rfl, hx0, hx1, _, hc1, hk1⟩; have hb1 := HB1.out.step hk1 (by omega))
  go_loopw [4] (fun a wr => ∃ (m : Nat) (d p : List UInt8) (n : Int), a = .int .i64 m ∧ m ≤ 7 ∧ BoxL wr (w.heap.size + 1) (.string ⟨d.toArray⟩) (.string ⟨p.toArray⟩) (.int .i64 n) ∧ d.length + p.length ≤ 30400 ∧ Cur wr b B (K + 2 + (7 - m) * 12) ∧ Chg (fun q => q = b) w wr ∧ BoxL wr w.heap.size (.string ⟨#[]⟩) (.string ⟨#[]⟩) (.int .i64 0)) (fun a _ => (intOf a).toNat)
  case atStart =>
    have hx7 := hx1 (by omega)
    exact ⟨x.toNat, [], [], 0, by congr 1; omega, by omega, hb1, by simp, hc1.more (by omega), ((Chg.refl (fun q => q = b) w).step k0 (fun _ e _ => e.elim)).trans hk1, HB0.out.step hk1 (by omega)⟩
  case round =>
    obtain ⟨m, d, p, n, rfl, hm, hbx, hlen, hcur, hch, hb0⟩ := hrel
    obtain ⟨c0, c1, c2, fr⟩ := id hbx
    by_cases hm0 : 0 < m
    · have hmp : (0 : Int) < (m : Int) := by omega
      have hw1 : IntKind.i64.wrap ((m : Int) - 1) = (m : Int) - 1 := IntWalk.i64_in _ (by omega)
      go_wp2_with fail
      refine wp_region_K (S := fun W => BoxL W (w.heap.size + 1) (.string ⟨d.toArray⟩) (.string ⟨p.toArray⟩) (.int .i64 n)) (k := 7) (by kernel_rfl) ?_
      have hS := hbx.keep (Chg.refl No wr).drew
      have hcur1 := hcur.keep (Chg.refl No wr).drew
      have kk1 := hch.trans ((Chg.refl (fun q => q = b) wr).drew)
      have hb0 := hb0.keep (Chg.refl No wr).drew
      generalize wr.drew = W1 at hS hcur1 kk1 hb0 ⊢
      clear c0 c1 c2 fr hbx hcur hch
      refine wpAnyK_take 0 (.agg #[.string ⟨d.toArray⟩, .string ⟨p.toArray⟩, .int .i64 n]) rfl (by kernel_rfl) (fun _ _ _ h => h) hS rfl (by rintro w ⟨c0, c1, c2, fr⟩; go_simp) ?_
      simp only [List.getElem_toArray, List.getElem_cons_zero, Act.put, List.setIfInBounds_toArray, List.set_cons_zero, List.set_cons_succ]
      refine wpAnyK_take 1 (.pointer (some ⟨b, 0, none⟩)) rfl (by kernel_rfl) (fun _ _ _ h => h) hS rfl (by rintro w ⟨c0, c1, c2, fr⟩; go_simp) ?_
      simp only [List.getElem_toArray, List.getElem_cons_succ, List.getElem_cons_zero, Act.put, List.setIfInBounds_toArray, List.set_cons_zero, List.set_cons_succ]
      have hs1 := kk1.size
      refine wpAnyK_1 2 (by kernel_rfl) (wpOpK' rfl rfl ?_)
      intro K0 hK0
      refine ocallE (f := 55) (args := #[.pointer (some ⟨b, 0, none⟩)]) (φ := fun v W' => ∃ c r : List UInt8, v = .agg #[.string ⟨c.toArray⟩, .string ⟨r.toArray⟩] ∧ c.length ≤ 64 ∧ r.length ≤ 64 ∧ Cur W' b B (K + 2 + (7 - m) * 12 + 10) ∧ Chg (fun q => q = b) W1 W') (by go_simp) ((logRecord_any b B (K + 2 + (7 - m) * 12) W1 hcur1 (by omega) (by omega)).mono (fun e W' ⟨c, r, h1, h2, h3, h4, h5⟩ => ⟨_, h1, c, r, rfl, h2, h3, h4, h5⟩)) (fun v2 W2 h2 => ?_)
      obtain ⟨c, r, rfl, hcl, hrl, hcur2, k2⟩ := h2
      have hS := hS.step k2 (by omega)
      have kk2 := kk1.trans k2
      have hb0 := hb0.step k2 (by omega)
      refine hK0.out _ _ hS ?_
      clear hK0 K0
      simp only [List.getElem_toArray, List.getElem_cons_succ, List.getElem_cons_zero, Act.put, List.setIfInBounds_toArray, List.set_cons_zero, List.set_cons_succ]
      have q3 := Lib.hid (specAppend_any d p n c r W2 (by omega) (by omega) (by omega) (by omega))
      have hlen2 := app_len d p n c r hlen (by omega) (by omega)
      obtain ⟨P, hP⟩ : ∃ P, appP d p n c r = P := ⟨_, rfl⟩
      obtain ⟨N, hN⟩ : ∃ N, appN d p n c r = N := ⟨_, rfl⟩
      obtain ⟨ss, hss⟩ : ∃ s, appS d p n c r = s := ⟨_, rfl⟩
      rw [hP, hN, hss] at q3
      rw [hP] at hlen2
      unfold lv rv at q3
      clear hP hN hss
      refine wpAnyK_1 3 (by kernel_rfl) (wpOpK' rfl rfl ?_)
      intro K0 hK0
      refine ocallR (f := 23) (args := #[.agg #[.string ⟨d.toArray⟩, .string ⟨p.toArray⟩, .int .i64 n], .agg #[.string ⟨c.toArray⟩, .string ⟨r.toArray⟩]]) (by go_simp) (q3.out) (fun W3 k3 => hK0.out _ _ (hS.keep k3) ?_)
      clear hK0 K0
      simp only [List.getElem_toArray, List.getElem_cons_succ, List.getElem_cons_zero, Act.put, List.setIfInBounds_toArray, List.set_cons_zero, List.set_cons_succ]
      have hS := hS.keep k3
      have hcur3 := hcur2.keep k3
      have kk3 := kk2.step k3 (fun _ e _ => e.elim)
      have hb0 := hb0.keep k3
      refine wpAnyK_take 4 (.tuple #[.agg #[.string ⟨d.toArray⟩, .string ⟨P.toArray⟩, .int .i64 N], .int .i64 ss]) rfl (by kernel_rfl) (fun _ _ _ h => h) hS rfl (by rintro w ⟨c0, c1, c2, fr⟩; go_simp) ?_
      simp only [List.getElem_toArray, List.getElem_cons_succ, List.getElem_cons_zero, Act.put, List.setIfInBounds_toArray, List.set_cons_zero, List.set_cons_succ]
      refine wpAnyK_take 5 (.agg #[.string ⟨d.toArray⟩, .string ⟨P.toArray⟩, .int .i64 N]) rfl (by kernel_rfl) (fun _ _ _ h => h) hS rfl (by rintro w ⟨c0, c1, c2, fr⟩; go_simp) ?_
      simp only [List.getElem_toArray, List.getElem_cons_succ, List.getElem_cons_zero, Act.put, List.setIfInBounds_toArray, List.set_cons_zero, List.set_cons_succ]
      obtain ⟨g0, g1, g2, fg⟩ := id hS
      have fg0 := fg 0
      have fg1 := fg 1
      have fg2 := fg 2
      clear fg
      refine wpAnyK_2 6 7 (by kernel_rfl) (wpOpK' rfl rfl ?_) (wpOpKk rfl rfl (by kernel_rfl) ?_)
      · intro K0 hK0
        unfold Oper.wp execOp
        go_simp
        refine hK0.out _ _ hS ?_
        clear hK0 K0
        simp only [List.setIfInBounds_toArray]
        refine wpAnyK_tail 7 rfl (by kernel_rfl) ?_
        simp only [List.drop_succ_cons, List.drop_zero]
        have fg := hS.fr
        go_wp2_with fail
        have hb5 := (hS.put (.string ⟨d.toArray⟩) (.string ⟨P.toArray⟩) (.int .i64 N))
        have kst := ((Chg.setCell (S := fun q => q = w.heap.size + 1) (Chg.refl _ W3) (p := ⟨w.heap.size + 1, 0, none⟩) (fun _ => rfl) (.string ⟨d.toArray⟩)).setCell (p := ⟨w.heap.size + 1, 1, none⟩) (fun _ => rfl) (.string ⟨P.toArray⟩)).setCell (p := ⟨w.heap.size + 1, 2, none⟩) (fun _ => rfl) (.int .i64 N)
        have hcur5 := hcur3.step kst (fun q hq => by omega)
        have kk5 := kk3.step kst (fun q hq hl => by omega)
        have hb0 := hb0.step kst (by omega)
        clear hS kst hcur3 kk3
        generalize ((W3.setCell ⟨w.heap.size + 1, 0, none⟩ (.string ⟨d.toArray⟩)).setCell ⟨w.heap.size + 1, 1, none⟩ (.string ⟨P.toArray⟩)).setCell ⟨w.heap.size + 1, 2, none⟩ (.int .i64 N) = W5 at hb5 hcur5 kk5 hb0 ⊢
        have q6 := Lib.hid (one_any b B (K + 2 + (7 - m) * 12 + 10) 4 W5 hcur5 (by omega) (by omega))
        have q7 := Lib.hid (fun W => specSync_any d P N W (by omega) (by omega))
        unfold lv at q7
        go_wp2_with (first
          | (go_at_call 58; refine (q6.out).mono ?_; rintro e w6 ⟨x, rfl, hcur6, hk6⟩; have hb6 := hb5.step hk6 (by omega); have kk6 := kk5.trans hk6; obtain ⟨c0, c1, c2, fr⟩ := id hb6)
          | (go_at_call 20; refine (q7.out _).mono ?_; rintro e w7 ⟨rfl, hk7⟩; have hb7 := hb6.keep hk7; obtain ⟨c0, c1, c2, fr⟩ := id hb7))
        · have kst7 := ((Chg.setCell (S := fun q => q = w.heap.size + 1) (Chg.refl _ w7) (p := ⟨w.heap.size + 1, 0, none⟩) (fun _ => rfl) (.string ⟨(syncD d P N).toArray⟩)).setCell (p := ⟨w.heap.size + 1, 1, none⟩) (fun _ => rfl) (.string ⟨#[]⟩)).setCell (p := ⟨w.heap.size + 1, 2, none⟩) (fun _ => rfl) (.int .i64 (syncN d P N))
          refine ⟨⟨m - 1, syncD d P N, [], syncN d P N, by congr 1; omega, by omega, hb7.put _ _ _, sync_len d P N hlen2, ((hcur6.keep hk7).step kst7 (fun q hq => by omega)).more (by omega), (kk6.step hk7 (fun _ e _ => e.elim)).step kst7 (fun q hq hl => by omega), ((hb0.step hk6 (by omega)).keep hk7).step kst7 (by omega)⟩, ?_⟩
          simp [intOf]; omega
        · refine ⟨⟨m - 1, d, P, N, by congr 1; omega, by omega, hb6, hlen2, hcur6.more (by omega), kk6, hb0.step hk6 (by omega)⟩, ?_⟩
          simp [intOf]; omega
      · intro K0 hK0
        unfold Oper.wp execOp
        go_simp
        refine hK0.out _ _ ?_
        clear hK0 K0
        simp only [List.setIfInBounds_toArray]
        refine wpAnyK_1 6 (by kernel_rfl) (wpOpKk rfl rfl (by kernel_rfl) ?_)
        intro K0 hK0
        unfold Oper.wp execOp
        go_simp
        refine hK0.out _ _ ?_
        clear hK0 K0
        refine ⟨by kernel_rfl, ?_⟩
        go_wp2_with fail
        have hb5 := (hS.put (.string ⟨d.toArray⟩) (.string ⟨P.toArray⟩) (.int .i64 N))
        have kst := ((Chg.setCell (S := fun q => q = w.heap.size + 1) (Chg.refl _ W3) (p := ⟨w.heap.size + 1, 0, none⟩) (fun _ => rfl) (.string ⟨d.toArray⟩)).setCell (p := ⟨w.heap.size + 1, 1, none⟩) (fun _ => rfl) (.string ⟨P.toArray⟩)).setCell (p := ⟨w.heap.size + 1, 2, none⟩) (fun _ => rfl) (.int .i64 N)
        have hcur5 := hcur3.step kst (fun q hq => by omega)
        have kk5 := kk3.step kst (fun q hq hl => by omega)
        have hb0 := hb0.step kst (by omega)
        clear hS kst hcur3 kk3
        generalize ((W3.setCell ⟨w.heap.size + 1, 0, none⟩ (.string ⟨d.toArray⟩)).setCell ⟨w.heap.size + 1, 1, none⟩ (.string ⟨P.toArray⟩)).setCell ⟨w.heap.size + 1, 2, none⟩ (.int .i64 N) = W5 at hb5 hcur5 kk5 hb0 ⊢
        have q6 := Lib.hid (one_any b B (K + 2 + (7 - m) * 12 + 10) 4 W5 hcur5 (by omega) (by omega))
        have q7 := Lib.hid (fun W => specSync_any d P N W (by omega) (by omega))
        unfold lv at q7
        go_wp2_with (first
          | (go_at_call 58; refine (q6.out).mono ?_; rintro e w6 ⟨x, rfl, hcur6, hk6⟩; have hb6 := hb5.step hk6 (by omega); have kk6 := kk5.trans hk6; obtain ⟨c0, c1, c2, fr⟩ := id hb6)
          | (go_at_call 20; refine (q7.out _).mono ?_; rintro e w7 ⟨rfl, hk7⟩; have hb7 := hb6.keep hk7; obtain ⟨c0, c1, c2, fr⟩ := id hb7))
        · have kst7 := ((Chg.setCell (S := fun q => q = w.heap.size + 1) (Chg.refl _ w7) (p := ⟨w.heap.size + 1, 0, none⟩) (fun _ => rfl) (.string ⟨(syncD d P N).toArray⟩)).setCell (p := ⟨w.heap.size + 1, 1, none⟩) (fun _ => rfl) (.string ⟨#[]⟩)).setCell (p := ⟨w.heap.size + 1, 2, none⟩) (fun _ => rfl) (.int .i64 (syncN d P N))
          refine ⟨⟨m - 1, syncD d P N, [], syncN d P N, by congr 1; omega, by omega, hb7.put _ _ _, sync_len d P N hlen2, ((hcur6.keep hk7).step kst7 (fun q hq => by omega)).more (by omega), (kk6.step hk7 (fun _ e _ => e.elim)).step kst7 (fun q hq hl => by omega), ((hb0.step hk6 (by omega)).keep hk7).step kst7 (by omega)⟩, ?_⟩
          simp [intOf]; omega
        · refine ⟨⟨m - 1, d, P, N, by congr 1; omega, by omega, hb6, hlen2, hcur6.more (by omega), kk6, hb0.step hk6 (by omega)⟩, ?_⟩
          simp [intOf]; omega
    · have hm00 : m = 0 := by omega
      subst hm00
      obtain ⟨d0, d1, d2, fd⟩ := id hb0
      go_wp2_with fail
      obtain ⟨z0, z1, z2, _⟩ := hb0.put (.string ⟨d.toArray⟩) (.string ⟨p.toArray⟩) (.int .i64 n)
      refine bodyPost_ret (v := .agg #[.string ⟨d.toArray⟩, .string ⟨p.toArray⟩, .int .i64 n]) (by simp [results, Tryd.results62, go_sem, z0, z1, z2]) rfl ?_
      refine ⟨d, p, n, rfl, hlen, ?_, ?_⟩
      · exact (hcur.step ((Chg.refl (fun q => q = w.heap.size) wr).put3 (fun _ => rfl) _ _ _) (fun q hq => by omega)).more (by omega)
      · exact hch.put3 (fun h => absurd h (by omega)) _ _ _
end Go.Proofs.YtmnohickmidfkaaDoor
